/-
  Parts of the proof: Words: what a list of words is worth, and steps of abstract code over them.
-/
import Derived.Test.YtokckcnfojjpjaaGreatNf16
import Derived.Lib.Mul64
import Derived.Laws.Bits64b
import Derived.Lib.Tables
set_option linter.unusedVariables false
set_option linter.unusedSimpArgs false
namespace Go.Proofs.YtokckcnfojjpjaaGreat
open Go.RowKit
def W (x:Nat):C:=.int .u32 x
def i64 (n:Int):V:=.c (.int .i64 n)
def val:List Nat→Nat
 | [] => 0
 | x :: r => x+4294967296*val r
def at0 (l:List Nat) (i:Nat):Nat:=l.getD i 0
def OkW (l:List Nat):Prop:=∀ x∈l,x<4294967296
inductive Wd:C→List Nat→Prop
 | nil:Wd .nilSl []
 | imm (l:List Nat):Wd (.imm l.length (l.map W)) l
def sgn (n:Int):Int:=if n<0 then -1 else if n=0 then 0 else 1
theorem nU:∀ l:List Nat,HFL (l.map W)
 | [] => trivial
 | x :: r => ⟨trivial,nU r⟩
theorem Wd.hf {c:C} {l:List Nat} (h:Wd c l):HFC c:=by
 cases h
 ·trivial
 ·exact nU _
theorem OkW.cons {x:Nat} {l:List Nat} (h:OkW (x :: l)):x<4294967296∧OkW l:=⟨h x (by simp),fun y hy => h y (by simp [hy])⟩
theorem OkW.drop {l:List Nat} (h:OkW l) (n:Nat):OkW (l.drop n):=fun x hx => h x (List.mem_of_mem_drop hx)
theorem OkW.take {l:List Nat} (h:OkW l) (n:Nat):OkW (l.take n):=fun x hx => h x (List.mem_of_mem_take hx)
theorem OkW.get {l:List Nat} (h:OkW l) (i:Nat):at0 l i<4294967296:=by
 unfold at0
 rw [List.getD_eq_getElem?_getD]
 cases hi:l[i]? with
 | none => simp
 | some x => exact h x (List.mem_of_getElem? hi)
theorem vV:∀ {l:List Nat},OkW l→val l<4294967296 ^ l.length
 | [],_ => by simp [val]
 | x :: r,h => by
  have h1:=vV h.cons.2
  have h2:=h.cons.1
  simp only [val,List.length_cons,Nat.pow_succ]
  have:val r+1≤4294967296 ^ r.length:=h1
  have:=Nat.mul_le_mul_left 4294967296 this
  omega
theorem uD:∀ (a b:List Nat),val (a++b)=val a+4294967296 ^ a.length*val b
 | [],b => by simp [val]
 | x :: r,b => by
  simp only [List.cons_append,val,uD r b,List.length_cons,Nat.pow_succ]
  rw [Nat.mul_add,←Nat.add_assoc,Nat.mul_comm _ 4294967296,Nat.mul_assoc]
theorem qE (l:List Nat) (i:Nat):val l=val (l.take i)+4294967296 ^ (l.take i).length*val (l.drop i):=by
 rw [←uD,List.take_append_drop]
theorem uJ {l:List Nat} {i:Nat} (h:i<l.length):l.drop i=at0 l i :: l.drop (i+1):=by
 unfold at0
 rw [List.drop_eq_getElem_cons h]
 congr 1
 simp [List.getD_eq_getElem?_getD,h]
theorem val_less {a b:List Nat} {i:Nat} (ha:OkW a) (hb:OkW b) (hl:a.length=b.length) (hi:i<a.length) (hd:a.drop (i+1)=b.drop (i+1)) (h:at0 a i<at0 b i):val a<val b:=by
 rw [qE a i,qE b i,uJ hi,uJ (l:=b) (by omega),hd]
 have h1:=vV (ha.take i)
 have e1:(a.take i).length=i:=by simp; omega
 have e2:(b.take i).length=i:=by simp; omega
 rw [e1] at h1 ⊢
 rw [e2]
 simp only [val]
 have h3:at0 a i+4294967296*val (b.drop (i+1))+1≤at0 b i+4294967296*val (b.drop (i+1)):=by omega
 have h4:=Nat.mul_le_mul_left (4294967296 ^ i) h3
 rw [Nat.mul_add] at h4
 omega
theorem vQ {x:Option V} {c:C} {l:List Nat} {K:V→Prop} (h:x=some (.c c)) (hc:Wd c l) (k:K (.c (.int .i64 l.length))):qLen x K:=by
 subst h
 cases hc
 ·exact wG rfl k
 ·exact wH rfl k
theorem vD {x i:Option V} {c:C} {l:List Nat} {K:V→Prop} {k:IntKind} {n:Int} (h:x=some (.c c)) (h2:i=some (.c (.int k n))) (hc:Wd c l) (h3:0≤n) (h4:n<l.length) (hk:K (.c (.ipt ((l.map W).drop n.toNat)))):qIad none 1 x i K:=by
 subst h h2
 cases hc with
 | nil => simp at h4; omega
 | imm => exact vJ rfl rfl h3 h4 (by simpa using hk)
theorem uR {size:Nat} {K:V→Prop} {l:List Nat} {n:Int} (h4:n<l.length) (h3:0≤n) (k:K (.c (.int .u32 (at0 l n.toNat:Nat)))):yL ((l.map W).drop n.toNat) false size K:=by
 have hlt:n.toNat<l.length:=by omega
 refine yC (c:=W (l.getD n.toNat 0)) ?_ k
 simp [List.getElem?_drop,List.getD_eq_getElem?_getD,hlt]
theorem slc_wd {e:Env} {x:Option V} {lo hi:Option AO} {c:C} {l:List Nat} {a b:Int} {K:V→Prop} (h:x=some (.c c)) (hc:Wd c l) (h1:bnd e 0 lo=some a) (h2:bnd e l.length hi=some b) (h3:0≤a) (h4:a≤b) (h5:b≤l.length)
  (k:∀ c',Wd c' ((l.drop a.toNat).take (b.toNat - a.toNat))→K (.c c')):qSlc e 1 x lo hi none K:=by
 subst h
 cases hc with
 | nil =>
  simp only [List.length_nil] at h2 h5
  have h2':bnd e 0 hi=some b:=by simpa using h2
  simp only [qSlc,h1,h2']
  refine xO (by simp; omega) (k _ (by simpa using .nil))
 | imm =>
  simp only [qSlc,h1,h2]
  refine xO (by simp; omega) (k _ ?_)
  have e1:((l.drop a.toNat).take (b.toNat - a.toNat)).length=b.toNat - a.toNat:=by simp; omega
  have e2:((l.map W).drop (a.toNat*1)).take ((b.toNat - a.toNat)*1)=((l.drop a.toNat).take (b.toNat - a.toNat)).map W:=by simp [List.map_take,List.map_drop]
  rw [e2]
  have:=Wd.imm ((l.drop a.toNat).take (b.toNat - a.toNat))
  rwa [e1] at this
theorem val_last {l:List Nat} (h:0<l.length) (h0:at0 l (l.length - 1)=0):val (l.take (l.length - 1))=val l:=by
 rw [qE l (l.length - 1),uJ (by omega),h0]
 have:l.length - 1+1=l.length:=by omega
 rw [this,List.drop_length]
 simp [val]
theorem yH {n:Int} (h1:-9223372036854775808≤n) (h2:n<9223372036854775808):IntKind.i64.wrap n=n:=by
 have e:IntKind.i64.wrap n=if n % 18446744073709551616≥9223372036854775808 then n % 18446744073709551616 - 18446744073709551616 else n % 18446744073709551616:=by
  simp [IntKind.wrap,IntKind.bits,IntKind.signed]
 rw [e]
 split <;> omega
theorem wrap_i64' (n:Int):IntKind.i64.wrap n=if n % 18446744073709551616≥9223372036854775808 then n % 18446744073709551616 - 18446744073709551616 else n % 18446744073709551616:=by
 simp [IntKind.wrap,IntKind.bits,IntKind.signed]
theorem xN (n:Int):IntKind.u64.wrap n=n % 18446744073709551616:=by simp [IntKind.wrap,IntKind.bits,IntKind.signed]
theorem xH (n:Int):IntKind.u32.wrap n=n % 4294967296:=by simp [IntKind.wrap,IntKind.bits,IntKind.signed]
theorem xB {k:IntKind} {a b:Int}:arith .add k a b=k.wrap (a+b):=rfl
theorem wY {k:IntKind} {a b:Int}:arith .sub k a b=k.wrap (a - b):=rfl
theorem ar_mul {k:IntKind} {a b:Int}:arith .mul k a b=k.wrap (a*b):=rfl
theorem wT {p:BK→Prop} {H:Hp} {b n:Nat} {co:Option Nat} {bx:Box} (l:List Nat) (hb:H[b]?=some (.live bx)) (hk:p bx.kind) (hk':bx.kind≠.bor) (hn:n=l.length) (hc:bx.cells.take n=l.map W):Fz p H (.sl b 0 n co 1) (.imm l.length (l.map W)):=by
 subst hn
 refine .sl hb hk hk' ?_
 simp only [List.drop_zero,Nat.mul_one]
 rw [hc]
 exact .hf (nU l)
theorem yE (l:List Nat) (i:Nat):val (l.take (i+1))=val (l.take i)+4294967296 ^ i*at0 l i:=by
 rcases Nat.lt_or_ge i l.length with h | h
 ·rw [List.take_add_one,uD]
  have e:l[i]?.toList=[at0 l i]:=by simp [at0,h]
  rw [e]
  have e2:(l.take i).length=i:=by simp; omega
  rw [e2]
  simp [val]
 ·rw [List.take_of_length_le (by omega),List.take_of_length_le h]
  have:at0 l i=0:=by simp [at0,h]
  rw [this]
  simp
theorem jI {l:List Nat} {i:Nat} (h:l.length≤i):at0 l i=0:=by simp [at0,h]
def OutB (H:Hp) (b:Nat) (el:TypeId) (out:List Nat):Prop:=∃ cells,H[b]?=some (.live ⟨cells,el,.rw⟩)∧cells.take out.length=out.map W
theorem out_le {out:List Nat} {cells:List C} (h:cells.take out.length=out.map W):out.length≤cells.length:=by
 have:=congrArg List.length h
 simp at this
 omega
theorem tA {H:Hp} {el:TypeId} {s x:Option V} {K:V→Hp→Prop} {b n:Nat} {co co':Option Nat} {out:List Nat} {cs:List C} {y:Nat} (h:s=some (.c (.sl b 0 n co 1))) (h2:x=some (.c (.sl H.length 0 1 co' 1))) (ho:OutB H b el out) (hn:n=out.length) (hc:cs=[W y]) (hl:out.length<4294967296)
  (k:∀ H' b',OutB H' b' el (out++[y])→K (.c (.sl b' 0 (out.length+1) none 1)) H'):appX (H++[.live ⟨cs,el,.rw⟩]) el 1 4 s x K:=by
 subst hn hc
 obtain ⟨cells,hb,hcells⟩:=ho
 have hlt:=lt_of_getElem? hb
 have hle:=out_le hcells
 refine app_sl (cs:=cells) (xs:=[W y]) (m:=1) h h2 (by simp [sY]) rfl rfl (by rw [List.getElem?_append_left hlt]; exact hb) (by omega) (by omega) (by omega) (k _ _ ⟨cells.take (out.length*1)++[W y],by simp,?_⟩)
 rw [Nat.mul_one,hcells,←List.map_singleton,←List.map_append]
 exact List.take_of_length_le (by simp)
theorem fz_out {p:BK→Prop} {H:Hp} {b n:Nat} {co:Option Nat} {el:TypeId} {out:List Nat} (h:OutB H b el out) (hn:n=out.length) (hp:p .rw):Fz p H (.sl b 0 n co 1) (.imm out.length (out.map W)):=by
 obtain ⟨cells,hb,hc⟩:=h
 exact wT out hb hp (by simp) hn (by rw [hn]; exact hc)
theorem yK {P:Program} {f:FuncId} {args:List V} {K' K:V→Prop} (h:semC P f args K') (k:∀ u,K' u→K u):semC P f args K:=vK k h
attribute [local irreducible] yA semH semC qLen qNil qIad qSlc qIdx yU yL yY appX appI slcX awpF yP xE xopF xL qval lval seqQ xD xW xT xP cnd arith IntKind.wrap
structure Held (B:Prop):Prop where
 out:B
theorem go {A B:Prop} (k:B) (h:Held B→A:=by
 intro hgo
 repeat (first | (refine g_o ?_; first | (refine o_some ?_; try (first | (refine x_q (by rfl) ?_; try (first | refine q_mv (by rfl) ?_ | refine vF (by rfl) ?_ | (refine tR ?_; try (first | refine vQ (by rfl) (by assumption) ?_ | refine vR (by rfl) ?_ | refine wH (by rfl) ?_ | refine wG (by rfl) ?_)) | (refine tT ?_; try (first | refine vD (by rfl) (by rfl) (by assumption) (by omega) (by omega) ?_)) | refine q_cm (by rfl) (by rfl) ?_ | refine q_ar (by rfl) (by rfl) (by rfl) ?_ | refine vY (by rfl) ?_ | (refine tX ?_; try (first | refine wU (by rfl) ?_ | refine wV (by rfl) ?_ | refine vS (by rfl) ?_)) | refine tW (by rfl) (by rfl) ?_ | refine vE (by rfl) ?_ | refine vG (by rfl) ?_ | refine tI (by rfl) (by rfl) (by first | decide | omega) ?_ | refine tN (by rfl) (by rfl) (by first | decide | omega) ?_ | refine tY (by rfl) (by rfl) ?_ | refine tZ (by rfl) (by rfl) (by rfl) ?_ | refine tP (by rfl) ?_ | refine tO (by rfl) ?_ | refine wK (by rfl) (by rfl) ?_ | refine wL (by rfl) (by rfl) ?_ | refine tM ?_ | refine tS ?_ | refine tV (by rfl) (by rfl) ?_ | refine vX (by rfl) (by rfl) ?_ | refine wO (by rfl) ?_ | refine q_mx (by rfl) (by rfl) ?_ | refine q_mn (by rfl) (by rfl) ?_ | refine tQ (by rfl) (by rfl) (by rfl) ?_ | refine tU (by rfl) ?_ | refine vZ (by rfl) ?_ | refine uA (by rfl) ?_ | refine wM (by rfl) ?_ | refine vH (by rfl) (by rfl) ?_ | refine vI (by rfl) (by rfl) ?_)) | (refine bX ?_; try (first | (refine sA (by rfl) ?_; try (first | refine yS (by rfl) (by rfl) ?_ | refine yO (by rfl) (by rfl) ?_)) | (refine sB (by rfl) ?_; try (first | refine uR (by omega) (by omega) ?_)))) | (refine jB (by rfl) (by rfl) ?_; try (first | refine xA (by rfl) (by rfl) (by rfl) (by decide) ?_)) | refine gL (by rfl) (by rfl) ?_ | refine x_box (by rfl) (by rfl) ?_ | refine gA ?_ | refine gX (by rfl) ?_ | refine x_app ?_ | refine bW ?_ | refine hU ?_ | refine hZ (by rfl) (by rfl) (by rfl) (by rfl) ?_ | refine pJ (by rfl) (by rfl) (by rfl) ?_)) | (refine o_nil ?_; try (first | refine s_n ?_ | refine s_r ?_ | refine s_e ?_ | refine k_n ?_ | refine k_r ?_ | refine k_e (by rfl) ?_ | refine k_o (by rfl) ?_ | refine l_r ?_ | refine l_e ?_ | refine b_r ?_ | refine b_n ?_)) | refine o_guard (by rfl) ?_ | refine o_guardT (by rfl) ?_ | refine o_none ?_ | refine o_guardN (by rfl) ?_) | (refine g_f ?_; first | refine f_seq ?_ | refine f_reg ?_ | (refine f_cond (by rfl) ?_; try (first | refine c_t (by rfl) ?_ | refine c_f (by rfl) ?_)) | refine f_block ?_ | refine f_skip ?_ | refine f_ret ?_ | refine f_exit ?_ | refine f_regD0 ?_ | refine f_regD ?_) | (refine g_s ?_; first | refine s_n ?_ | refine s_r ?_ | refine s_e ?_) | (refine g_d ?_; first | (refine gQ (T:=none) (by rfl) (by rfl) ?_; try (first | (refine xd_q (by rfl) ?_; try (first | refine q_mv (by rfl) ?_ | refine vF (by rfl) ?_ | (refine tR ?_; try (first | refine vQ (by rfl) (by assumption) ?_ | refine vR (by rfl) ?_ | refine wH (by rfl) ?_ | refine wG (by rfl) ?_)) | (refine tT ?_; try (first | refine vD (by rfl) (by rfl) (by assumption) (by omega) (by omega) ?_)) | refine q_cm (by rfl) (by rfl) ?_ | refine q_ar (by rfl) (by rfl) (by rfl) ?_ | refine vY (by rfl) ?_ | (refine tX ?_; try (first | refine wU (by rfl) ?_ | refine wV (by rfl) ?_ | refine vS (by rfl) ?_)) | refine tW (by rfl) (by rfl) ?_ | refine vE (by rfl) ?_ | refine vG (by rfl) ?_ | refine tI (by rfl) (by rfl) (by first | decide | omega) ?_ | refine tN (by rfl) (by rfl) (by first | decide | omega) ?_ | refine tY (by rfl) (by rfl) ?_ | refine tZ (by rfl) (by rfl) (by rfl) ?_ | refine tP (by rfl) ?_ | refine tO (by rfl) ?_ | refine wK (by rfl) (by rfl) ?_ | refine wL (by rfl) (by rfl) ?_ | refine tM ?_ | refine tS ?_ | refine tV (by rfl) (by rfl) ?_ | refine vX (by rfl) (by rfl) ?_ | refine wO (by rfl) ?_ | refine q_mx (by rfl) (by rfl) ?_ | refine q_mn (by rfl) (by rfl) ?_ | refine tQ (by rfl) (by rfl) (by rfl) ?_ | refine tU (by rfl) ?_ | refine vZ (by rfl) ?_ | refine uA (by rfl) ?_ | refine wM (by rfl) ?_ | refine vH (by rfl) (by rfl) ?_ | refine vI (by rfl) (by rfl) ?_)) | (refine sT ?_; try (first | (refine sA (by rfl) ?_; try (first | refine yS (by rfl) (by rfl) ?_ | refine yO (by rfl) (by rfl) ?_)) | (refine sB (by rfl) ?_; try (first | refine uR (by omega) (by omega) ?_)))) | (refine uX (by rfl) (by rfl) ?_; try (first | refine xA (by rfl) (by rfl) (by rfl) (by decide) ?_)) | refine sU (by rfl) (by rfl) ?_ | refine pP (by rfl) (by rfl) (by rfl) ?_ | refine uY (by rfl) ?_ | refine sV (by rfl) (by rfl) ?_)) | (refine gQ (by rfl) (by rfl) ?_; try (first | (refine xd_q (by rfl) ?_; try (first | refine q_mv (by rfl) ?_ | refine vF (by rfl) ?_ | (refine tR ?_; try (first | refine vQ (by rfl) (by assumption) ?_ | refine vR (by rfl) ?_ | refine wH (by rfl) ?_ | refine wG (by rfl) ?_)) | (refine tT ?_; try (first | refine vD (by rfl) (by rfl) (by assumption) (by omega) (by omega) ?_)) | refine q_cm (by rfl) (by rfl) ?_ | refine q_ar (by rfl) (by rfl) (by rfl) ?_ | refine vY (by rfl) ?_ | (refine tX ?_; try (first | refine wU (by rfl) ?_ | refine wV (by rfl) ?_ | refine vS (by rfl) ?_)) | refine tW (by rfl) (by rfl) ?_ | refine vE (by rfl) ?_ | refine vG (by rfl) ?_ | refine tI (by rfl) (by rfl) (by first | decide | omega) ?_ | refine tN (by rfl) (by rfl) (by first | decide | omega) ?_ | refine tY (by rfl) (by rfl) ?_ | refine tZ (by rfl) (by rfl) (by rfl) ?_ | refine tP (by rfl) ?_ | refine tO (by rfl) ?_ | refine wK (by rfl) (by rfl) ?_ | refine wL (by rfl) (by rfl) ?_ | refine tM ?_ | refine tS ?_ | refine tV (by rfl) (by rfl) ?_ | refine vX (by rfl) (by rfl) ?_ | refine wO (by rfl) ?_ | refine q_mx (by rfl) (by rfl) ?_ | refine q_mn (by rfl) (by rfl) ?_ | refine tQ (by rfl) (by rfl) (by rfl) ?_ | refine tU (by rfl) ?_ | refine vZ (by rfl) ?_ | refine uA (by rfl) ?_ | refine wM (by rfl) ?_ | refine vH (by rfl) (by rfl) ?_ | refine vI (by rfl) (by rfl) ?_)) | (refine sT ?_; try (first | (refine sA (by rfl) ?_; try (first | refine yS (by rfl) (by rfl) ?_ | refine yO (by rfl) (by rfl) ?_)) | (refine sB (by rfl) ?_; try (first | refine uR (by omega) (by omega) ?_)))) | (refine uX (by rfl) (by rfl) ?_; try (first | refine xA (by rfl) (by rfl) (by rfl) (by decide) ?_)) | refine sU (by rfl) (by rfl) ?_ | refine pP (by rfl) (by rfl) (by rfl) ?_ | refine uY (by rfl) ?_ | refine sV (by rfl) (by rfl) ?_)) | (refine d_nil ?_; try (first | refine s_n ?_ | refine s_r ?_ | refine s_e ?_ | refine k_n ?_ | refine k_r ?_ | refine k_e (by rfl) ?_ | refine k_o (by rfl) ?_ | refine l_r ?_ | refine l_e ?_ | refine b_r ?_ | refine b_n ?_)) | refine d_none (by rfl) (by rfl) ?_ | refine d_guard (by rfl) (by rfl) (by rfl) ?_) | (refine g_x ?_; first | (refine x_q (by rfl) ?_; try (first | refine q_mv (by rfl) ?_ | refine vF (by rfl) ?_ | (refine tR ?_; try (first | refine vQ (by rfl) (by assumption) ?_ | refine vR (by rfl) ?_ | refine wH (by rfl) ?_ | refine wG (by rfl) ?_)) | (refine tT ?_; try (first | refine vD (by rfl) (by rfl) (by assumption) (by omega) (by omega) ?_)) | refine q_cm (by rfl) (by rfl) ?_ | refine q_ar (by rfl) (by rfl) (by rfl) ?_ | refine vY (by rfl) ?_ | (refine tX ?_; try (first | refine wU (by rfl) ?_ | refine wV (by rfl) ?_ | refine vS (by rfl) ?_)) | refine tW (by rfl) (by rfl) ?_ | refine vE (by rfl) ?_ | refine vG (by rfl) ?_ | refine tI (by rfl) (by rfl) (by first | decide | omega) ?_ | refine tN (by rfl) (by rfl) (by first | decide | omega) ?_ | refine tY (by rfl) (by rfl) ?_ | refine tZ (by rfl) (by rfl) (by rfl) ?_ | refine tP (by rfl) ?_ | refine tO (by rfl) ?_ | refine wK (by rfl) (by rfl) ?_ | refine wL (by rfl) (by rfl) ?_ | refine tM ?_ | refine tS ?_ | refine tV (by rfl) (by rfl) ?_ | refine vX (by rfl) (by rfl) ?_ | refine wO (by rfl) ?_ | refine q_mx (by rfl) (by rfl) ?_ | refine q_mn (by rfl) (by rfl) ?_ | refine tQ (by rfl) (by rfl) (by rfl) ?_ | refine tU (by rfl) ?_ | refine vZ (by rfl) ?_ | refine uA (by rfl) ?_ | refine wM (by rfl) ?_ | refine vH (by rfl) (by rfl) ?_ | refine vI (by rfl) (by rfl) ?_)) | (refine bX ?_; try (first | (refine sA (by rfl) ?_; try (first | refine yS (by rfl) (by rfl) ?_ | refine yO (by rfl) (by rfl) ?_)) | (refine sB (by rfl) ?_; try (first | refine uR (by omega) (by omega) ?_)))) | (refine jB (by rfl) (by rfl) ?_; try (first | refine xA (by rfl) (by rfl) (by rfl) (by decide) ?_)) | refine gL (by rfl) (by rfl) ?_ | refine x_box (by rfl) (by rfl) ?_ | refine gA ?_ | refine gX (by rfl) ?_ | refine x_app ?_ | refine bW ?_ | refine hU ?_ | refine hZ (by rfl) (by rfl) (by rfl) (by rfl) ?_ | refine pJ (by rfl) (by rfl) (by rfl) ?_) | (refine g_q ?_; first | refine q_mv (by rfl) ?_ | refine vF (by rfl) ?_ | (refine tR ?_; try (first | refine vQ (by rfl) (by assumption) ?_ | refine vR (by rfl) ?_ | refine wH (by rfl) ?_ | refine wG (by rfl) ?_)) | (refine tT ?_; try (first | refine vD (by rfl) (by rfl) (by assumption) (by omega) (by omega) ?_)) | refine q_cm (by rfl) (by rfl) ?_ | refine q_ar (by rfl) (by rfl) (by rfl) ?_ | refine vY (by rfl) ?_ | (refine tX ?_; try (first | refine wU (by rfl) ?_ | refine wV (by rfl) ?_ | refine vS (by rfl) ?_)) | refine tW (by rfl) (by rfl) ?_ | refine vE (by rfl) ?_ | refine vG (by rfl) ?_ | refine tI (by rfl) (by rfl) (by first | decide | omega) ?_ | refine tN (by rfl) (by rfl) (by first | decide | omega) ?_ | refine tY (by rfl) (by rfl) ?_ | refine tZ (by rfl) (by rfl) (by rfl) ?_ | refine tP (by rfl) ?_ | refine tO (by rfl) ?_ | refine wK (by rfl) (by rfl) ?_ | refine wL (by rfl) (by rfl) ?_ | refine tM ?_ | refine tS ?_ | refine tV (by rfl) (by rfl) ?_ | refine vX (by rfl) (by rfl) ?_ | refine wO (by rfl) ?_ | refine q_mx (by rfl) (by rfl) ?_ | refine q_mn (by rfl) (by rfl) ?_ | refine tQ (by rfl) (by rfl) (by rfl) ?_ | refine tU (by rfl) ?_ | refine vZ (by rfl) ?_ | refine uA (by rfl) ?_ | refine wM (by rfl) ?_ | refine vH (by rfl) (by rfl) ?_ | refine vI (by rfl) (by rfl) ?_) | (refine g_c ?_; first | refine c_t (by rfl) ?_ | refine c_f (by rfl) ?_) | (refine g_k ?_; first | refine k_n ?_ | refine k_r ?_ | refine k_e (by rfl) ?_ | refine k_o (by rfl) ?_) | (refine g_lo ?_; first | refine l_r ?_ | refine l_e ?_) | (refine g_xd ?_; first | (refine xd_q (by rfl) ?_; try (first | refine q_mv (by rfl) ?_ | refine vF (by rfl) ?_ | (refine tR ?_; try (first | refine vQ (by rfl) (by assumption) ?_ | refine vR (by rfl) ?_ | refine wH (by rfl) ?_ | refine wG (by rfl) ?_)) | (refine tT ?_; try (first | refine vD (by rfl) (by rfl) (by assumption) (by omega) (by omega) ?_)) | refine q_cm (by rfl) (by rfl) ?_ | refine q_ar (by rfl) (by rfl) (by rfl) ?_ | refine vY (by rfl) ?_ | (refine tX ?_; try (first | refine wU (by rfl) ?_ | refine wV (by rfl) ?_ | refine vS (by rfl) ?_)) | refine tW (by rfl) (by rfl) ?_ | refine vE (by rfl) ?_ | refine vG (by rfl) ?_ | refine tI (by rfl) (by rfl) (by first | decide | omega) ?_ | refine tN (by rfl) (by rfl) (by first | decide | omega) ?_ | refine tY (by rfl) (by rfl) ?_ | refine tZ (by rfl) (by rfl) (by rfl) ?_ | refine tP (by rfl) ?_ | refine tO (by rfl) ?_ | refine wK (by rfl) (by rfl) ?_ | refine wL (by rfl) (by rfl) ?_ | refine tM ?_ | refine tS ?_ | refine tV (by rfl) (by rfl) ?_ | refine vX (by rfl) (by rfl) ?_ | refine wO (by rfl) ?_ | refine q_mx (by rfl) (by rfl) ?_ | refine q_mn (by rfl) (by rfl) ?_ | refine tQ (by rfl) (by rfl) (by rfl) ?_ | refine tU (by rfl) ?_ | refine vZ (by rfl) ?_ | refine uA (by rfl) ?_ | refine wM (by rfl) ?_ | refine vH (by rfl) (by rfl) ?_ | refine vI (by rfl) (by rfl) ?_)) | (refine sT ?_; try (first | (refine sA (by rfl) ?_; try (first | refine yS (by rfl) (by rfl) ?_ | refine yO (by rfl) (by rfl) ?_)) | (refine sB (by rfl) ?_; try (first | refine uR (by omega) (by omega) ?_)))) | (refine uX (by rfl) (by rfl) ?_; try (first | refine xA (by rfl) (by rfl) (by rfl) (by decide) ?_)) | refine sU (by rfl) (by rfl) ?_ | refine pP (by rfl) (by rfl) (by rfl) ?_ | refine uY (by rfl) ?_ | refine sV (by rfl) (by rfl) ?_) | (refine g_l ?_; first | (refine sA (by rfl) ?_; try (first | refine yS (by rfl) (by rfl) ?_ | refine yO (by rfl) (by rfl) ?_)) | (refine sB (by rfl) ?_; try (first | refine uR (by omega) (by omega) ?_))) | (refine g_len ?_; first | refine vQ (by rfl) (by assumption) ?_ | refine vR (by rfl) ?_ | refine wH (by rfl) ?_ | refine wG (by rfl) ?_) | (refine g_nil ?_; first | refine wU (by rfl) ?_ | refine wV (by rfl) ?_ | refine vS (by rfl) ?_) | (refine g_iad ?_; first | refine vD (by rfl) (by rfl) (by assumption) (by omega) (by omega) ?_) | (refine g_box ?_; first | refine yS (by rfl) (by rfl) ?_ | refine yO (by rfl) (by rfl) ?_) | (refine g_cells ?_; first | refine uR (by omega) (by omega) ?_) | (refine g_st ?_; first | refine xA (by rfl) (by rfl) (by rfl) (by decide) ?_) | (refine g_b ?_; first | refine b_r ?_ | refine b_n ?_) | (refine g_r ?_; first | refine r_tmp (by rfl) ?_ | refine r_cell ?_ | refine r_nil ?_))
 exact hgo.out):A:=h ⟨k⟩
end Go.Proofs.YtokckcnfojjpjaaGreat

namespace Go.Proofs.YtokckcnfojjpjaaGreat
open Go.RowKit
attribute [local irreducible] yA semH semC qLen qNil qIad qSlc qIdx yU yL yY appX appI slcX awpF yP xE xopF xL qval lval seqQ xD xW xT xP cnd arith IntKind.wrap
def CmpK (a b:List Nat) (u:V):Prop:=∃ r,u=i64 r∧(a.length<b.length→r = -1)∧(b.length<a.length→r=1)∧(a.length=b.length→r=sgn (val a - val b))
theorem CmpK.fz {a b:List Nat} {u:V} {H:Hp} (h:CmpK a b u):∃ d,FzV H u d∧CmpK a b d:=by
 obtain ⟨r,rfl,h⟩:=h
 exact ⟨_,.c (.hf trivial),r,rfl,h⟩
theorem tB {c d:C} {a b:List Nat} (hc:Wd c a) (hd:Wd d b) (ha:OkW a) (hb:OkW b) (hl:a.length<4611686018427387904):semC Tryz.prog n_num_cmpWords [.c c,.c d] (CmpK a b):=by
 refine yD ok_num_cmpWords rfl (show HFVs [.c c,.c d] from ⟨hc.hf,hd.hf,trivial⟩) ?_
 refine go ?_
 refine xR (fun h => ?_) (fun h => ?_)
 ·refine go ?_
  simp [yA] at h
  refine xR (fun h' => ?_) (fun h' => ?_)
  ·refine go ?_
   simp [yA] at h'
   exact CmpK.fz ⟨_,rfl,by omega,by omega,by omega⟩
  ·refine go ?_
   simp [yA] at h'
   exact CmpK.fz ⟨_,rfl,by omega,by omega,by omega⟩
 ·refine go ?_
  simp [yA] at h
  have h:a.length=b.length:=by omega
  refine yR (fun n vs H => ∃ i:Int,vs=[.c c,.c d,i64 i]∧H=[]∧n=(i+1).toNat ∧ -1≤i∧i<a.length∧a.drop (i+1).toNat=b.drop (i+1).toNat) (by rfl) ⟨_,rfl,rfl,rfl,?_⟩ ?_
  ·rw [wY,yH (by omega) (by omega)]
   refine ⟨by omega,by omega,?_⟩
   have e:(((a.length:Int) - 1)+1).toNat=a.length:=by omega
   rw [e,List.drop_length,h,List.drop_length]
  ·rintro n vs H ⟨i,rfl,rfl,rfl,h1,h2,h4⟩
   refine go ?_
   refine xR (fun h' => ?_) (fun h' => ?_)
   ·simp [yA] at h'
    refine go ?_
    have ei:i.toNat<a.length:=by omega
    have ei':(i+1).toNat=i.toNat+1:=by omega
    refine xR (fun h3 => ?_) (fun h3 => ?_)
    ·simp [yA] at h3
     refine go ?_
     rw [ei'] at h4
     refine xR (fun h5 => ?_) (fun h5 => ?_)
     ·simp [yA] at h5
      refine go ?_
      have:=val_less ha hb h ei h4 (by omega)
      exact CmpK.fz ⟨_,rfl,by omega,by omega,fun _ => by unfold sgn; rw [if_pos (by omega)]⟩
     ·simp [yA] at h5
      refine go ?_
      have:=val_less hb ha h.symm (by omega) h4.symm (by omega:at0 b i.toNat<at0 a i.toNat)
      exact CmpK.fz ⟨_,rfl,by omega,by omega,fun _ => by unfold sgn; rw [if_neg (by omega),if_neg (by omega)]⟩
    ·simp [yA] at h3
     refine go ?_
     refine l_n (by rfl) ?_ ⟨_,rfl,rfl,rfl,?_⟩
     ·rw [wY,yH (by omega) (by omega)]
      omega
     ·rw [wY,yH (by omega) (by omega)]
      refine ⟨by omega,by omega,?_⟩
      have e:(i - 1+1).toNat=i.toNat:=by omega
      rw [e,uJ ei,uJ (l:=b) (by omega),←ei',h4,show at0 a i.toNat=at0 b i.toNat by omega]
   ·simp [yA] at h'
    refine go ?_
    have e:(i+1).toNat=0:=by omega
    rw [e] at h4
    simp at h4
    exact CmpK.fz ⟨_,rfl,by omega,by omega,fun _ => by rw [h4]; simp [sgn]⟩
theorem bO {c d:C} {a b:List Nat} (hc:Wd c a) (hd:Wd d b) (ha:OkW a) (hb:OkW b) (hl:a.length<4611686018427387904):semC Tryz.prog n_ref01_order [.c c,.c d] (CmpK a b):=by
 refine yD ok_ref01_order rfl (show HFVs [.c c,.c d] from ⟨hc.hf,hd.hf,trivial⟩) ?_
 refine go ?_
 refine xR (fun h => ?_) (fun h => ?_)
 ·refine go ?_
  simp [yA] at h
  refine xR (fun h' => ?_) (fun h' => ?_)
  ·refine go ?_
   simp [yA] at h'
   exact CmpK.fz ⟨_,rfl,by omega,by omega,by omega⟩
  ·refine go ?_
   simp [yA] at h'
   exact CmpK.fz ⟨_,rfl,by omega,by omega,by omega⟩
 ·refine go ?_
  simp [yA] at h
  have h:a.length=b.length:=by omega
  refine yR (fun n vs H => ∃ i:Int,vs=[.c c,.c d,i64 i]∧H=[]∧n=(i+1).toNat ∧ -1≤i∧i<a.length∧a.drop (i+1).toNat=b.drop (i+1).toNat) (by rfl) ⟨_,rfl,rfl,rfl,?_⟩ ?_
  ·rw [wY,yH (by omega) (by omega)]
   refine ⟨by omega,by omega,?_⟩
   have e:(((a.length:Int) - 1)+1).toNat=a.length:=by omega
   rw [e,List.drop_length,h,List.drop_length]
  ·rintro n vs H ⟨i,rfl,rfl,rfl,h1,h2,h4⟩
   refine go ?_
   refine xR (fun h' => ?_) (fun h' => ?_)
   ·simp [yA] at h'
    refine go ?_
    have ei:i.toNat<a.length:=by omega
    have ei':(i+1).toNat=i.toNat+1:=by omega
    refine xR (fun h5 => ?_) (fun h5 => ?_)
    ·simp [yA] at h5
     refine go ?_
     rw [ei'] at h4
     have:=val_less ha hb h ei h4 (by omega)
     exact CmpK.fz ⟨_,rfl,by omega,by omega,fun _ => by unfold sgn; rw [if_pos (by omega)]⟩
    ·simp [yA] at h5
     refine go ?_
     refine xR (fun h6 => ?_) (fun h6 => ?_)
     ·simp [yA] at h6
      refine go ?_
      rw [ei'] at h4
      have:=val_less hb ha h.symm (by omega) h4.symm (by omega:at0 b i.toNat<at0 a i.toNat)
      exact CmpK.fz ⟨_,rfl,by omega,by omega,fun _ => by unfold sgn; rw [if_neg (by omega),if_neg (by omega)]⟩
     ·simp [yA] at h6
      refine go ?_
      refine l_n (by rfl) ?_ ⟨_,rfl,rfl,rfl,?_⟩
      ·rw [wY,yH (by omega) (by omega)]
       omega
      ·rw [wY,yH (by omega) (by omega)]
       refine ⟨by omega,by omega,?_⟩
       have e:(i - 1+1).toNat=i.toNat:=by omega
       rw [e,uJ ei,uJ (l:=b) (by omega),←ei',h4,show at0 a i.toNat=at0 b i.toNat by omega]
   ·simp [yA] at h'
    refine go ?_
    have e:(i+1).toNat=0:=by omega
    rw [e] at h4
    simp at h4
    exact CmpK.fz ⟨_,rfl,by omega,by omega,fun _ => by rw [h4]; simp [sgn]⟩
theorem qQ {c:C} {l:List Nat} (hc:Wd c l) (hl:l.length<4611686018427387904):semC Tryz.prog n_ref01_trim [.c c] (fun u => ∃ c' l',u=.c c'∧Wd c' l'∧l' <+: l∧val l'=val l∧(l'≠[]→at0 l' (l'.length - 1)≠0)):=by
 refine yD ok_ref01_trim rfl (show HFVs [.c c] from ⟨hc.hf,trivial⟩) ?_
 refine go ?_
 refine yR (fun n vs H => ∃ c' l',vs=[.c c']∧H=[]∧n=l'.length∧Wd c' l'∧l' <+: l∧val l'=val l) (by rfl) ⟨_,l,rfl,rfl,rfl,hc,List.prefix_refl l,rfl⟩ ?_
 rintro n vs H ⟨c',l',rfl,rfl,rfl,hc',h1,h2⟩
 refine go ?_
 cases hq:yA Cm.gtr (l'.length:Int) 0
 ·simp [yA] at hq
  refine go ?_
  refine ⟨_,.c (.hf hc'.hf),c',l',rfl,hc',h1,h2,fun hne => ?_⟩
  exact absurd hq hne
 ·simp [yA] at hq
  have hll:=h1.length_le
  refine go ?_
  have e:arith .sub .i64 (l'.length:Int) 1=((l'.length - 1:Nat):Int):=by
   rw [wY,yH (by omega) (by omega)]
   omega
  rw [e]
  refine go ?_
  refine xR (fun h => ?_) (fun h => ?_)
  ·simp [yA] at h
   refine go ?_
   refine slc_wd (by rfl) hc' (by rfl) (by rfl) (by omega) (by rw [e]; omega) (by rw [e]; omega) (fun c'' hc'' => ?_)
   refine go ?_
   rw [e] at hc''
   refine l_n (by rfl) ?_ ⟨c'',_,rfl,rfl,rfl,hc'',?_,?_⟩
   ·simp
    omega
   ·simp
    exact (List.take_prefix _ _).trans h1
   ·simp
    rw [val_last hq h,h2]
  ·simp [yA] at h
   refine go ?_
   exact ⟨_,.c (.hf hc'.hf),c',l',rfl,hc',h1,h2,fun _ => h⟩
end Go.Proofs.YtokckcnfojjpjaaGreat

namespace Go.Proofs.YtokckcnfojjpjaaGreat
open Go.RowKit
attribute [local irreducible] yA semH semC qLen qNil qIad qSlc qIdx yU yL yY appX appI slcX awpF yP xE xopF xL qval lval seqQ xD xW xT xP cnd arith IntKind.wrap
def Norm (l:List Nat):Prop:=OkW l∧(l≠[]→at0 l (l.length - 1)≠0)
def amt (neg:Bool) (n:Nat):Int:=bif neg then -(n:Int) else n
inductive IsZ:List C→Int→Prop
 | small (v:Int) (h1:-9223372036854775808≤v) (h2:v<9223372036854775808):IsZ [.int .i64 v,.nilSl,.bool false] v
 | big (l:List Nat) (neg:Bool) (hn:Norm l) (h:9223372036854775808≤val l):IsZ [.int .i64 0,.imm l.length (l.map W),.bool neg] (amt neg (val l))
theorem IsZ.hf {cs:List C} {z:Int} (h:IsZ cs z):HFL cs:=by
 cases h
 ·exact ⟨trivial,trivial,trivial,trivial⟩
 ·exact ⟨trivial,nU _,trivial,trivial⟩
theorem bI (a:Int):a.fdiv (2 ^ (min (32:Int).toNat IntKind.u64.bits))=a / 4294967296:=by
 have:(2:Int) ^ (min (32:Int).toNat IntKind.u64.bits)=4294967296:=by decide
 rw [this,Int.fdiv_eq_ediv_of_nonneg _ (by decide)]
theorem Norm.nil:Norm []:=⟨fun x h => (by cases h),fun h => (h rfl).elim⟩
theorem Norm.one {x:Nat} (h:x<4294967296) (h0:x≠0):Norm [x]:=⟨fun y hy => by simp at hy; omega,fun _ => by simpa [at0] using h0⟩
theorem Norm.two {x y:Nat} (h:x<4294967296) (h':y<4294967296) (h0:y≠0):Norm [x,y]:=⟨fun z hz => by simp at hz; omega,fun _ => by simpa [at0] using h0⟩
def nH (z:Int) (u:V):Prop:=∃ c l neg,u=.tup [.c c,.c (.bool neg)]∧Wd c l∧Norm l∧z=amt neg (val l)
theorem nH.fz {z:Int} {c:C} {l:List Nat} {neg:Bool} {H:Hp} {d:C} (h:Fz (·≠.bor) H c d) (h1:Wd d l) (h2:Norm l) (h3:z=amt neg (val l)):∃ d,FzV H (.tup [.c c,.c (.bool neg)]) d∧nH z d :=
 ⟨_,.tup (.cons (.c h) (.cons (.c (.hf trivial)) .nil)),d,l,neg,rfl,h1,h2,h3⟩
theorem xM {cs:List C} {z:Int} (hz:IsZ cs z):semC Tryz.prog n_num_Z_words [.agg cs] (nH z):=by
 refine yD ok_num_Z_words rfl (show HFVs [.agg cs] from ⟨hz.hf,trivial⟩) ?_
 cases hz with
 | small v h1 h2 =>
  refine go ?_
  cases hq:yA Cm.lss z 0
  ·have hq0:=hq
   simp [yA] at hq
   refine go ?_
   rw [show IntKind.u64.wrap z=((z.natAbs:Nat):Int) by rw [xN]; omega]
   cases hq2:yA Cm.eql ((z.natAbs:Nat):Int) 0
   ·simp [yA] at hq2
    refine go ?_
    cases hq3:yA Cm.eql (((z.natAbs:Nat):Int).fdiv (2 ^ (min (32:Int).toNat IntKind.u64.bits))) 0
    ·rw [bI] at hq3
     simp only [yA,yI] at hq3
     refine go ?_
     rw [hq0,bI,show IntKind.u32.wrap ((z.natAbs:Nat):Int)=((z.natAbs % 4294967296:Nat):Int) by rw [xH]; omega,show IntKind.u32.wrap (((z.natAbs:Nat):Int) / 4294967296)=((z.natAbs / 4294967296:Nat):Int) by rw [xH]; omega]
     refine nH.fz (wT [z.natAbs % 4294967296,z.natAbs / 4294967296] (by rfl) (by simp) (by simp) rfl rfl) (.imm _) (.two (by omega) (by omega) (by omega)) ?_
     simp [amt,val]
     omega
    ·rw [bI] at hq3
     simp only [yA,yG] at hq3
     refine go ?_
     rw [hq0,show IntKind.u32.wrap ((z.natAbs:Nat):Int)=((z.natAbs:Nat):Int) by rw [xH]; omega]
     refine nH.fz (wT [z.natAbs] (by rfl) (by simp) (by simp) rfl rfl) (.imm _) (.one (by omega) (by omega)) ?_
     simp [amt,val]
     omega
   ·simp [yA] at hq2
    refine go ?_
    exact nH.fz (.hf trivial) .nil .nil (by simp [amt,val]; omega)
  ·have hq0:=hq
   simp [yA] at hq
   refine go ?_
   rw [show IntKind.u64.wrap (0 - IntKind.u64.wrap z)=((z.natAbs:Nat):Int) by rw [xN,xN]; omega]
   cases hq2:yA Cm.eql ((z.natAbs:Nat):Int) 0
   ·simp [yA] at hq2
    refine go ?_
    cases hq3:yA Cm.eql (((z.natAbs:Nat):Int).fdiv (2 ^ (min (32:Int).toNat IntKind.u64.bits))) 0
    ·rw [bI] at hq3
     simp only [yA,yI] at hq3
     refine go ?_
     rw [hq0,bI,show IntKind.u32.wrap ((z.natAbs:Nat):Int)=((z.natAbs % 4294967296:Nat):Int) by rw [xH]; omega,show IntKind.u32.wrap (((z.natAbs:Nat):Int) / 4294967296)=((z.natAbs / 4294967296:Nat):Int) by rw [xH]; omega]
     refine nH.fz (wT [z.natAbs % 4294967296,z.natAbs / 4294967296] (by rfl) (by simp) (by simp) rfl rfl) (.imm _) (.two (by omega) (by omega) (by omega)) ?_
     simp [amt,val]
     omega
    ·rw [bI] at hq3
     simp only [yA,yG] at hq3
     refine go ?_
     rw [hq0,show IntKind.u32.wrap ((z.natAbs:Nat):Int)=((z.natAbs:Nat):Int) by rw [xH]; omega]
     refine nH.fz (wT [z.natAbs] (by rfl) (by simp) (by simp) rfl rfl) (.imm _) (.one (by omega) (by omega)) ?_
     simp [amt,val]
     omega
   ·simp [yA] at hq2
    refine go ?_
    exact nH.fz (.hf trivial) .nil .nil (by simp [amt,val]; omega)
 | big l neg hn hv =>
  refine go ?_
  exact nH.fz (.hf (nU _)) (.imm l) hn rfl
end Go.Proofs.YtokckcnfojjpjaaGreat

namespace Go.Proofs.YtokckcnfojjpjaaGreat
open Go.RowKit
set_option maxRecDepth 20000
def ZK (z:Int) (u:V):Prop:=∃ cs,u=.agg cs∧IsZ cs z
theorem pK {h b:Nat} (hh:h<4294967296) (hb:b<4294967296):arith .or .u64 ((h*4294967296:Nat):Int) (b:Int)=((h*4294967296+b:Nat):Int):=by
 have e:(BitVec.ofInt 64 ((h*4294967296:Nat):Int) ||| BitVec.ofInt 64 (b:Int)).toNat=h*4294967296+b:=by
  rw [BitVec.toNat_or,BitVec.toNat_ofInt,BitVec.toNat_ofInt]
  have e1:(((h*4294967296:Nat):Int) % ((2 ^ 64:Nat):Int)).toNat=h <<< 32:=by
   rw [Nat.shiftLeft_eq]
   omega
  have e2:((b:Int) % ((2 ^ 64:Nat):Int)).toNat=b:=by omega
  rw [e1,e2,←Nat.shiftLeft_add_eq_or_of_lt (by omega:b<2 ^ 32),Nat.shiftLeft_eq]
 show IntKind.u64.wrap _=_
 show IntKind.u64.wrap ((BitVec.ofInt 64 ((h*4294967296:Nat):Int) ||| BitVec.ofInt 64 (b:Int)).toNat:Int)=_
 rw [e,xN]
 omega
theorem shl32 (a:Int):a*2 ^ (min (32:Int).toNat IntKind.u64.bits)=a*4294967296:=by
 have:(2:Int) ^ (min (32:Int).toNat IntKind.u64.bits)=4294967296:=by decide
 rw [this]
theorem val_ge {l:List Nat} (h:Norm l) (h3:2<l.length):18446744073709551616≤val l:=by
 rw [qE l (l.length - 1),uJ (by omega)]
 have h1:=h.2 (fun e => by simp [e] at h3)
 have e1:(l.take (l.length - 1)).length=l.length - 1:=by simp
 rw [e1]
 simp only [val]
 have h2:(4294967296:Nat) ^ 2≤4294967296 ^ (l.length - 1):=Nat.pow_le_pow_right (by decide) (by omega)
 have h4:4294967296 ^ (l.length - 1)*1≤4294967296 ^ (l.length - 1)*(at0 l (l.length - 1)+4294967296*val (l.drop (l.length - 1+1))):=Nat.mul_le_mul_left _ (by omega)
 have h5:(4294967296:Nat) ^ 2=18446744073709551616:=by decide
 omega
theorem val_two {l:List Nat} (h:OkW l) (h2:l.length≤2):val l<18446744073709551616:=by
 have h1:=vV h
 have h3:(4294967296:Nat) ^ l.length≤4294967296 ^ 2:=Nat.pow_le_pow_right (by decide) h2
 have h5:(4294967296:Nat) ^ 2=18446744073709551616:=by decide
 omega
attribute [local irreducible] yA semH semC qLen qNil qIad qSlc qIdx yU yL yY appX appI slcX awpF yP xE xopF xL qval lval seqQ xD xW xT xP cnd arith IntKind.wrap
theorem ZK.fz {z:Int} {cs:List C} {H:Hp} (h:IsZ cs z):∃ d,FzV H (.agg cs) d∧ZK z d:=⟨_,.agg (.hf h.hf),cs,rfl,h⟩
theorem wC {c:C} {l:List Nat} (neg:Bool) (hc:Wd c l) (ho:OkW l) (hl:l.length<4611686018427387904):semC Tryz.prog n_num_made [.c c,.c (.bool neg)] (ZK (amt neg (val l))):=by
 refine yD ok_num_made rfl (show HFVs [.c c,.c (.bool neg)] from ⟨hc.hf,trivial,trivial⟩) ?_
 refine go ?_
 refine yR (fun n vs H => ∃ c' l',vs=[.c c',.c (.bool neg),.c (.ptr 0 0)]∧H=[.live ⟨[.int .i64 0,.nilSl,.bool false],xG,.rw⟩]∧n=l'.length∧Wd c' l'∧l' <+: l∧val l'=val l) (by rfl) ⟨_,l,rfl,rfl,rfl,hc,List.prefix_refl l,rfl⟩ ?_
 rintro n vs H ⟨c',l',rfl,rfl,rfl,hc',h1,h2⟩
 have hll:=h1.length_le
 refine go ?_
 cases hq:yA Cm.gtr (l'.length:Int) 0
 ·simp [yA] at hq
  refine go ?_
  have hno:Norm l':=by rw [hq]; exact .nil
  cases hq2:yA Cm.leq (l'.length:Int) 2
  ·simp [yA] at hq2
   refine go ?_
   have hg:=val_ge hno (by omega)
   rw [←h2]
   cases hc' with
   | nil => simp at hq2
   | imm => exact ZK.fz (.big l' neg hno (by omega))
  ·simp [yA] at hq2
   refine go ?_
   refine yR (fun n vs H => ∃ i u:Int,vs=[.c c',.c (.bool neg),.c (.ptr 0 0),.c (.int .u64 u),i64 i]∧H=[.live ⟨[.int .i64 0,.nilSl,.bool false],xG,.rw⟩]∧n=(i+1).toNat ∧ -1≤i∧i<l'.length∧u=((val (l'.drop (i+1).toNat):Nat):Int)) (by rfl) ⟨_,_,rfl,rfl,rfl,?_⟩ ?_
   ·rw [wY,yH (by omega) (by omega)]
    refine ⟨by omega,by omega,?_⟩
    have e:((l'.length:Int) - 1+1).toNat=l'.length:=by omega
    rw [e,List.drop_length]
    rfl
   ·rintro n vs H ⟨i,u,rfl,rfl,rfl,k1,k2,rfl⟩
    refine go ?_
    refine xR (fun h => ?_) (fun h => ?_)
    ·simp [yA] at h
     refine go ?_
     have ei:(i+1).toNat=i.toNat+1:=by omega
     have ei':(i - 1+1).toNat=i.toNat:=by omega
     have ho':OkW l':=hno.1
     have hv1:val (l'.drop (i+1).toNat)<4294967296:=by
      have h7:=vV (ho'.drop (i+1).toNat)
      have h8:(4294967296:Nat) ^ (l'.drop (i+1).toNat).length≤4294967296 ^ 1:=Nat.pow_le_pow_right (by decide) (by simp; omega)
      have h9:(4294967296:Nat) ^ 1=4294967296:=by decide
      omega
     have hw:=ho'.get i.toNat
     rw [shl32,show IntKind.u64.wrap (((val (l'.drop (i+1).toNat):Nat):Int)*4294967296)=((val (l'.drop (i+1).toNat)*4294967296:Nat):Int) by rw [xN]; omega,show IntKind.u64.wrap ((at0 l' i.toNat:Nat):Int)=((at0 l' i.toNat:Nat):Int) by rw [xN]; omega,pK hv1 hw]
     refine l_n (by rfl) ?_ ⟨_,_,rfl,rfl,rfl,?_⟩
     ·rw [wY,yH (by omega) (by omega)]
      omega
     ·rw [wY,yH (by omega) (by omega)]
      refine ⟨by omega,by omega,?_⟩
      rw [ei',uJ (l:=l') (i:=i.toNat) (by omega),←ei]
      simp only [val]
      omega
    ·simp [yA] at h
     have e0:(i+1).toNat=0:=by omega
     rw [e0,List.drop_zero,h2]
     have hvt:=val_two hno.1 (by omega)
     rw [h2] at hvt
     refine go ?_
     cases hq3:yA Cm.lss ((val l:Nat):Int) 9223372036854775808
     ·simp [yA] at hq3
      refine go ?_
      cases hc' with
      | nil => simp [val] at h2; omega
      | imm =>
       have:=IsZ.big l' neg hno (by omega)
       rw [h2] at this
       exact ZK.fz this
     ·simp [yA] at hq3
      cases neg
      ·refine go ?_
       rw [yH (by omega) (by omega)]
       exact ZK.fz (.small _ (by omega) (by omega))
      ·refine go ?_
       rw [yH (n:=((val l:Nat):Int)) (by omega) (by omega),yH (by omega) (by omega),Int.zero_sub]
       exact ZK.fz (.small _ (by omega) (by omega))
 ·simp [yA] at hq
  refine go ?_
  have e:arith .sub .i64 (l'.length:Int) 1=((l'.length - 1:Nat):Int):=by
   rw [wY,yH (by omega) (by omega)]
   omega
  rw [e]
  refine go ?_
  refine xR (fun h => ?_) (fun h => ?_)
  ·simp [yA] at h
   refine go ?_
   refine slc_wd (by rfl) hc' (by rfl) (by rfl) (by omega) (by rw [e]; omega) (by rw [e]; omega) (fun c'' hc'' => ?_)
   refine go ?_
   rw [e] at hc''
   refine l_n (by rfl) ?_ ⟨c'',_,rfl,rfl,rfl,hc'',?_,?_⟩
   ·simp
    omega
   ·simp
    exact (List.take_prefix _ _).trans h1
   ·simp
    rw [val_last hq h,h2]
  ·simp [yA] at h
   refine go ?_
   have hno:Norm l':=⟨fun x hx => ho x (h1.subset hx),fun _ => h⟩
   cases hq2:yA Cm.leq (l'.length:Int) 2
   ·simp [yA] at hq2
    refine go ?_
    have hg:=val_ge hno (by omega)
    rw [←h2]
    cases hc' with
    | nil => simp at hq2
    | imm => exact ZK.fz (.big l' neg hno (by omega))
   ·simp [yA] at hq2
    refine go ?_
    refine yR (fun n vs H => ∃ i u:Int,vs=[.c c',.c (.bool neg),.c (.ptr 0 0),.c (.int .u64 u),i64 i]∧H=[.live ⟨[.int .i64 0,.nilSl,.bool false],xG,.rw⟩]∧n=(i+1).toNat ∧ -1≤i∧i<l'.length∧u=((val (l'.drop (i+1).toNat):Nat):Int)) (by rfl) ⟨_,_,rfl,rfl,rfl,?_⟩ ?_
    ·rw [wY,yH (by omega) (by omega)]
     refine ⟨by omega,by omega,?_⟩
     have e:((l'.length:Int) - 1+1).toNat=l'.length:=by omega
     rw [e,List.drop_length]
     rfl
    ·rintro n vs H ⟨i,u,rfl,rfl,rfl,k1,k2,rfl⟩
     refine go ?_
     refine xR (fun h => ?_) (fun h => ?_)
     ·simp [yA] at h
      refine go ?_
      have ei:(i+1).toNat=i.toNat+1:=by omega
      have ei':(i - 1+1).toNat=i.toNat:=by omega
      have ho':OkW l':=hno.1
      have hv1:val (l'.drop (i+1).toNat)<4294967296:=by
       have h7:=vV (ho'.drop (i+1).toNat)
       have h8:(4294967296:Nat) ^ (l'.drop (i+1).toNat).length≤4294967296 ^ 1:=Nat.pow_le_pow_right (by decide) (by simp; omega)
       have h9:(4294967296:Nat) ^ 1=4294967296:=by decide
       omega
      have hw:=ho'.get i.toNat
      rw [shl32,show IntKind.u64.wrap (((val (l'.drop (i+1).toNat):Nat):Int)*4294967296)=((val (l'.drop (i+1).toNat)*4294967296:Nat):Int) by rw [xN]; omega,show IntKind.u64.wrap ((at0 l' i.toNat:Nat):Int)=((at0 l' i.toNat:Nat):Int) by rw [xN]; omega,pK hv1 hw]
      refine l_n (by rfl) ?_ ⟨_,_,rfl,rfl,rfl,?_⟩
      ·rw [wY,yH (by omega) (by omega)]
       omega
      ·rw [wY,yH (by omega) (by omega)]
       refine ⟨by omega,by omega,?_⟩
       rw [ei',uJ (l:=l') (i:=i.toNat) (by omega),←ei]
       simp only [val]
       omega
     ·simp [yA] at h
      have e0:(i+1).toNat=0:=by omega
      rw [e0,List.drop_zero,h2]
      have hvt:=val_two hno.1 (by omega)
      rw [h2] at hvt
      refine go ?_
      cases hq3:yA Cm.lss ((val l:Nat):Int) 9223372036854775808
      ·simp [yA] at hq3
       refine go ?_
       cases hc' with
       | nil => simp [val] at h2; omega
       | imm =>
        have:=IsZ.big l' neg hno (by omega)
        rw [h2] at this
        exact ZK.fz this
      ·simp [yA] at hq3
       cases neg
       ·refine go ?_
        rw [yH (by omega) (by omega)]
        exact ZK.fz (.small _ (by omega) (by omega))
       ·refine go ?_
        rw [yH (n:=((val l:Nat):Int)) (by omega) (by omega),yH (by omega) (by omega),Int.zero_sub]
        exact ZK.fz (.small _ (by omega) (by omega))
end Go.Proofs.YtokckcnfojjpjaaGreat

namespace Go.Proofs.YtokckcnfojjpjaaGreat
open Go.RowKit
set_option maxRecDepth 20000
attribute [local irreducible] yA semH semC qLen qNil qIad qSlc qIdx yU yL yY appX appI slcX awpF yP xE xopF xL qval lval seqQ xD xW xT xP cnd arith IntKind.wrap
def WdK (p:List Nat→Prop) (u:V):Prop:=∃ c l,u=.c c∧Wd c l∧OkW l∧p l
theorem WdK.fz {p:List Nat→Prop} {H:Hp} {b n:Nat} {co:Option Nat} {el:TypeId} {out:List Nat} (h:OutB H b el out) (hn:n=out.length) (ho:OkW out) (hp:p out):∃ d,FzV H (.c (.sl b 0 n co 1)) d∧WdK p d :=
 ⟨_,.c (fz_out h hn (by simp)),_,out,rfl,.imm out,ho,hp⟩
theorem OkW.snoc {l:List Nat} {x:Nat} (h:OkW l) (hx:x<4294967296):OkW (l++[x]):=fun y hy => by
 rcases List.mem_append.1 hy with hy | hy
 ·exact h y hy
 ·simp at hy
  omega
theorem pD {c d:C} {a b:List Nat} (hc:Wd c a) (hd:Wd d b) (ha:OkW a) (hb:OkW b) (hl:a.length<2147483648) (hl':b.length<2147483648):semC Tryz.prog n_num_addWords [.c c,.c d] (WdK fun l => val l=val a+val b∧l.length≤max a.length b.length+1):=by
 refine yD ok_num_addWords rfl (show HFVs [.c c,.c d] from ⟨hc.hf,hd.hf,trivial⟩) ?_
 refine go ?_
 cases hq:yA Cm.lss (a.length:Int) b.length
 ·simp [yA] at hq
  refine go ?_
  have e:arith .add .i64 (a.length:Int) 1=((a.length+1:Nat):Int):=by
   rw [xB,yH (by omega) (by omega)]
   omega
  rw [e]
  refine wX (by rfl) (by rfl) ⟨by omega,by omega,by omega,by omega⟩ ?_
  refine go ?_
  refine yR (fun n vs H => ∃ (i:Nat) (bx:Nat) (co:Option Nat) (carry:Nat) (out:List Nat),vs=[.c c,.c d,.c (.sl bx 0 i co 1),.c (.int .u64 (carry:Int)),i64 a.length,i64 (i:Int)]∧OutB H bx yT out∧n=a.length - i∧i≤a.length∧out.length=i∧OkW out∧carry≤1∧val out+4294967296 ^ i*carry=val (a.take i)+val (b.take i)) (by rfl) ⟨0,0,_,0,[],rfl,⟨_,rfl,rfl⟩,rfl,by omega,rfl,fun x hx => (by cases hx),by omega,by simp [val]⟩ ?_
  rintro n vs H ⟨_,bx,co,carry,out,rfl,hob,rfl,k1,rfl,k3,k4,k5⟩
  refine go ?_
  refine xR (fun h => ?_) (fun h => ?_)
  ·simp [yA] at h
   refine go ?_
   have ea:=ha.get out.length
   have eb:=hb.get out.length
   rw [show IntKind.u64.wrap ((at0 a ((out.length:Nat):Int).toNat:Nat):Int)=((at0 a out.length:Nat):Int) by rw [xN,Int.toNat_natCast]; omega,show arith .add .u64 ((at0 a out.length:Nat):Int) (carry:Int)=((at0 a out.length+carry:Nat):Int) by rw [xB,xN]; omega]
   have round:∀ (s:Nat),s=at0 a out.length+carry+at0 b out.length→OkW (out++[s % 4294967296])∧s / 4294967296≤1∧val (out++[s % 4294967296])+4294967296 ^ (out.length+1)*(s / 4294967296)=val (a.take (out.length+1))+val (b.take (out.length+1)):=by
    intro s hs
    refine ⟨k3.snoc (by omega),by omega,?_⟩
    rw [yE,yE,uD,Nat.pow_succ]
    simp only [val,Nat.mul_zero,Nat.add_zero]
    have e1:=Nat.div_add_mod s 4294967296
    have e2:4294967296 ^ out.length*(s % 4294967296)+4294967296 ^ out.length*4294967296*(s / 4294967296)=4294967296 ^ out.length*s:=by
     rw [Nat.mul_assoc,←Nat.mul_add,Nat.add_comm,e1]
    have e3:4294967296 ^ out.length*s=4294967296 ^ out.length*at0 a out.length+4294967296 ^ out.length*carry+4294967296 ^ out.length*at0 b out.length:=by rw [hs,Nat.mul_add,Nat.mul_add]
    omega
   cases hq2:yA Cm.lss ((out.length:Nat):Int) b.length
   ·simp [yA] at hq2
    have hz:=jI hq2
    refine go ?_
    rw [show IntKind.u32.wrap ((at0 a out.length+carry:Nat):Int)=(((at0 a out.length+carry) % 4294967296:Nat):Int) by rw [xH]; omega]
    refine tA (by rfl) (by rfl) hob rfl rfl (by omega) (fun H' b' hob' => ?_)
    refine go ?_
    rw [bI,show ((at0 a out.length+carry:Nat):Int) / 4294967296=(((at0 a out.length+carry) / 4294967296:Nat):Int) by omega,show arith .add .i64 ((out.length:Nat):Int) 1=((out.length+1:Nat):Int) by rw [xB,yH (by omega) (by omega)]; omega]
    obtain ⟨r1,r2,r3⟩:=round (at0 a out.length+carry) (by omega)
    exact l_n (by rfl) (by omega) ⟨out.length+1,b',_,_,_,rfl,hob',rfl,by omega,by simp,r1,r2,r3⟩
   ·simp [yA] at hq2
    refine go ?_
    rw [show IntKind.u64.wrap ((at0 b ((out.length:Nat):Int).toNat:Nat):Int)=((at0 b out.length:Nat):Int) by rw [xN,Int.toNat_natCast]; omega,show arith .add .u64 ((at0 a out.length+carry:Nat):Int) ((at0 b out.length:Nat):Int)=((at0 a out.length+carry+at0 b out.length:Nat):Int) by rw [xB,xN]; omega]
    refine go ?_
    rw [show IntKind.u32.wrap ((at0 a out.length+carry+at0 b out.length:Nat):Int)=(((at0 a out.length+carry+at0 b out.length) % 4294967296:Nat):Int) by rw [xH]; omega]
    refine tA (by rfl) (by rfl) hob rfl rfl (by omega) (fun H' b' hob' => ?_)
    refine go ?_
    rw [bI,show ((at0 a out.length+carry+at0 b out.length:Nat):Int) / 4294967296=(((at0 a out.length+carry+at0 b out.length) / 4294967296:Nat):Int) by omega,show arith .add .i64 ((out.length:Nat):Int) 1=((out.length+1:Nat):Int) by rw [xB,yH (by omega) (by omega)]; omega]
    obtain ⟨r1,r2,r3⟩:=round (at0 a out.length+carry+at0 b out.length) rfl
    exact l_n (by rfl) (by omega) ⟨out.length+1,b',_,_,_,rfl,hob',rfl,by omega,by simp,r1,r2,r3⟩
  ·simp [yA] at h
   refine go ?_
   have el:out.length=a.length:=by omega
   rw [show IntKind.u32.wrap ((carry:Nat):Int)=((carry:Nat):Int) by rw [xH]; omega]
   refine tA (by rfl) (by rfl) hob rfl rfl (by omega) (fun H' b' hob' => ?_)
   refine go ?_
   refine WdK.fz hob' (by simp) (k3.snoc (by omega)) ⟨?_,by simp; omega⟩
   rw [uD]
   simp only [val,Nat.mul_zero,Nat.add_zero]
   rw [k5,List.take_of_length_le (by omega),List.take_of_length_le (by omega)]
   all_goals omega
 ·simp [yA] at hq
  refine go ?_
  have e:arith .add .i64 (b.length:Int) 1=((b.length+1:Nat):Int):=by
   rw [xB,yH (by omega) (by omega)]
   omega
  rw [e]
  refine wX (by rfl) (by rfl) ⟨by omega,by omega,by omega,by omega⟩ ?_
  refine go ?_
  refine yR (fun n vs H => ∃ (i:Nat) (bx:Nat) (co:Option Nat) (carry:Nat) (out:List Nat),vs=[.c d,.c c,.c (.sl bx 0 i co 1),.c (.int .u64 (carry:Int)),i64 b.length,i64 (i:Int)]∧OutB H bx yT out∧n=b.length - i∧i≤b.length∧out.length=i∧OkW out∧carry≤1∧val out+4294967296 ^ i*carry=val (b.take i)+val (a.take i)) (by rfl) ⟨0,0,_,0,[],rfl,⟨_,rfl,rfl⟩,rfl,by omega,rfl,fun x hx => (by cases hx),by omega,by simp [val]⟩ ?_
  rintro n vs H ⟨_,bx,co,carry,out,rfl,hob,rfl,k1,rfl,k3,k4,k5⟩
  refine go ?_
  refine xR (fun h => ?_) (fun h => ?_)
  ·simp [yA] at h
   refine go ?_
   have ea:=hb.get out.length
   have eb:=ha.get out.length
   rw [show IntKind.u64.wrap ((at0 b ((out.length:Nat):Int).toNat:Nat):Int)=((at0 b out.length:Nat):Int) by rw [xN,Int.toNat_natCast]; omega,show arith .add .u64 ((at0 b out.length:Nat):Int) (carry:Int)=((at0 b out.length+carry:Nat):Int) by rw [xB,xN]; omega]
   have round:∀ (s:Nat),s=at0 b out.length+carry+at0 a out.length→OkW (out++[s % 4294967296])∧s / 4294967296≤1∧val (out++[s % 4294967296])+4294967296 ^ (out.length+1)*(s / 4294967296)=val (b.take (out.length+1))+val (a.take (out.length+1)):=by
    intro s hs
    refine ⟨k3.snoc (by omega),by omega,?_⟩
    rw [yE,yE,uD,Nat.pow_succ]
    simp only [val,Nat.mul_zero,Nat.add_zero]
    have e1:=Nat.div_add_mod s 4294967296
    have e2:4294967296 ^ out.length*(s % 4294967296)+4294967296 ^ out.length*4294967296*(s / 4294967296)=4294967296 ^ out.length*s:=by
     rw [Nat.mul_assoc,←Nat.mul_add,Nat.add_comm,e1]
    have e3:4294967296 ^ out.length*s=4294967296 ^ out.length*at0 b out.length+4294967296 ^ out.length*carry+4294967296 ^ out.length*at0 a out.length:=by rw [hs,Nat.mul_add,Nat.mul_add]
    omega
   cases hq2:yA Cm.lss ((out.length:Nat):Int) a.length
   ·simp [yA] at hq2
    have hz:=jI hq2
    refine go ?_
    rw [show IntKind.u32.wrap ((at0 b out.length+carry:Nat):Int)=(((at0 b out.length+carry) % 4294967296:Nat):Int) by rw [xH]; omega]
    refine tA (by rfl) (by rfl) hob rfl rfl (by omega) (fun H' b' hob' => ?_)
    refine go ?_
    rw [bI,show ((at0 b out.length+carry:Nat):Int) / 4294967296=(((at0 b out.length+carry) / 4294967296:Nat):Int) by omega,show arith .add .i64 ((out.length:Nat):Int) 1=((out.length+1:Nat):Int) by rw [xB,yH (by omega) (by omega)]; omega]
    obtain ⟨r1,r2,r3⟩:=round (at0 b out.length+carry) (by omega)
    exact l_n (by rfl) (by omega) ⟨out.length+1,b',_,_,_,rfl,hob',rfl,by omega,by simp,r1,r2,r3⟩
   ·simp [yA] at hq2
    refine go ?_
    rw [show IntKind.u64.wrap ((at0 a ((out.length:Nat):Int).toNat:Nat):Int)=((at0 a out.length:Nat):Int) by rw [xN,Int.toNat_natCast]; omega,show arith .add .u64 ((at0 b out.length+carry:Nat):Int) ((at0 a out.length:Nat):Int)=((at0 b out.length+carry+at0 a out.length:Nat):Int) by rw [xB,xN]; omega]
    refine go ?_
    rw [show IntKind.u32.wrap ((at0 b out.length+carry+at0 a out.length:Nat):Int)=(((at0 b out.length+carry+at0 a out.length) % 4294967296:Nat):Int) by rw [xH]; omega]
    refine tA (by rfl) (by rfl) hob rfl rfl (by omega) (fun H' b' hob' => ?_)
    refine go ?_
    rw [bI,show ((at0 b out.length+carry+at0 a out.length:Nat):Int) / 4294967296=(((at0 b out.length+carry+at0 a out.length) / 4294967296:Nat):Int) by omega,show arith .add .i64 ((out.length:Nat):Int) 1=((out.length+1:Nat):Int) by rw [xB,yH (by omega) (by omega)]; omega]
    obtain ⟨r1,r2,r3⟩:=round (at0 b out.length+carry+at0 a out.length) rfl
    exact l_n (by rfl) (by omega) ⟨out.length+1,b',_,_,_,rfl,hob',rfl,by omega,by simp,r1,r2,r3⟩
  ·simp [yA] at h
   refine go ?_
   have el:out.length=b.length:=by omega
   rw [show IntKind.u32.wrap ((carry:Nat):Int)=((carry:Nat):Int) by rw [xH]; omega]
   refine tA (by rfl) (by rfl) hob rfl rfl (by omega) (fun H' b' hob' => ?_)
   refine go ?_
   refine WdK.fz hob' (by simp) (k3.snoc (by omega)) ⟨?_,by simp; omega⟩
   rw [uD]
   simp only [val,Nat.mul_zero,Nat.add_zero]
   rw [k5,List.take_of_length_le (by omega),List.take_of_length_le (by omega)]
   all_goals omega
theorem vW {c d:C} {a b:List Nat} (hc:Wd c a) (hd:Wd d b) (ha:OkW a) (hb:OkW b) (hl:a.length<2147483648) (hl':b.length≤a.length) (hv:val b≤val a):semC Tryz.prog n_num_subWords [.c c,.c d] (WdK fun l => val l=val a - val b∧l.length≤a.length):=by
 refine yD ok_num_subWords rfl (show HFVs [.c c,.c d] from ⟨hc.hf,hd.hf,trivial⟩) ?_
 refine go ?_
 refine wX (by rfl) (by rfl) ⟨by omega,by omega,by omega,by omega⟩ ?_
 refine go ?_
 refine yR (fun n vs H => ∃ (i:Nat) (bx:Nat) (co:Option Nat) (borrow:Nat) (out:List Nat),vs=[.c c,.c d,.c (.sl bx 0 i co 1),i64 (borrow:Int),i64 a.length,i64 (i:Int)]∧OutB H bx yT out∧n=a.length - i∧i≤a.length∧out.length=i∧OkW out∧borrow≤1∧val out+val (b.take i)=val (a.take i)+4294967296 ^ i*borrow) (by rfl) ⟨0,0,_,0,[],rfl,⟨_,rfl,rfl⟩,rfl,by omega,rfl,fun x hx => (by cases hx),by omega,by simp [val]⟩ ?_
 rintro n vs H ⟨_,bx,co,borrow,out,rfl,hob,rfl,k1,rfl,k3,k4,k5⟩
 refine go ?_
 refine xR (fun h => ?_) (fun h => ?_)
 ·simp [yA] at h
  refine go ?_
  have ea:=ha.get out.length
  have eb:=hb.get out.length
  rw [show IntKind.i64.wrap ((at0 a ((out.length:Nat):Int).toNat:Nat):Int)=((at0 a out.length:Nat):Int) by rw [Int.toNat_natCast,yH (by omega) (by omega)],show arith .sub .i64 ((at0 a out.length:Nat):Int) (borrow:Int)=((at0 a out.length:Nat):Int) - (borrow:Int) by rw [wY,yH (by omega) (by omega)]]
  have round:∀ (w br:Nat),(w:Int)=((at0 a out.length:Nat):Int) - (borrow:Int) - ((at0 b out.length:Nat):Int)+4294967296*br→w<4294967296→OkW (out++[w])∧val (out++[w])+val (b.take (out.length+1))=val (a.take (out.length+1))+4294967296 ^ (out.length+1)*br:=by
   intro w br hw hlt
   refine ⟨k3.snoc hlt,?_⟩
   rw [yE,yE,uD,Nat.pow_succ]
   simp only [val,Nat.mul_zero,Nat.add_zero]
   have e1:w+borrow+at0 b out.length=at0 a out.length+4294967296*br:=by omega
   have e2:=congrArg (fun x => 4294967296 ^ out.length*x) e1
   simp only [Nat.mul_add] at e2
   rw [←Nat.mul_assoc] at e2
   omega
  cases hq2:yA Cm.lss ((out.length:Nat):Int) b.length
  ·simp [yA] at hq2
   have hz:=jI hq2
   refine go ?_
   cases hq3:yA Cm.lss (((at0 a out.length:Nat):Int) - (borrow:Int)) 0
   ·simp only [yA,yI] at hq3
    refine go ?_
    rw [show IntKind.u32.wrap (((at0 a out.length:Nat):Int) - (borrow:Int))=(((((at0 a out.length:Nat):Int) - (borrow:Int)).toNat:Nat):Int) by rw [xH]; omega]
    refine tA (by rfl) (by rfl) hob rfl rfl (by omega) (fun H' b' hob' => ?_)
    refine go ?_
    rw [show arith .add .i64 ((out.length:Nat):Int) 1=((out.length+1:Nat):Int) by rw [xB,yH (by omega) (by omega)]; omega]
    obtain ⟨r1,r2⟩:=round (((at0 a out.length:Nat):Int) - (borrow:Int)).toNat 0 (by omega) (by omega)
    exact l_n (by rfl) (by omega) ⟨out.length+1,b',_,0,_,rfl,hob',rfl,by omega,by simp,r1,by omega,r2⟩
   ·simp only [yA,yG] at hq3
    refine go ?_
    rw [show arith .add .i64 (((at0 a out.length:Nat):Int) - (borrow:Int)) 4294967296=((at0 a out.length:Nat):Int) - (borrow:Int)+4294967296 by rw [xB,yH (by omega) (by omega)]]
    rw [show IntKind.u32.wrap (((at0 a out.length:Nat):Int) - (borrow:Int)+4294967296)=(((((at0 a out.length:Nat):Int) - (borrow:Int)+4294967296).toNat:Nat):Int) by rw [xH]; omega]
    refine tA (by rfl) (by rfl) hob rfl rfl (by omega) (fun H' b' hob' => ?_)
    refine go ?_
    rw [show arith .add .i64 ((out.length:Nat):Int) 1=((out.length+1:Nat):Int) by rw [xB,yH (by omega) (by omega)]; omega]
    obtain ⟨r1,r2⟩:=round (((at0 a out.length:Nat):Int) - (borrow:Int)+4294967296).toNat 1 (by omega) (by omega)
    exact l_n (by rfl) (by omega) ⟨out.length+1,b',_,1,_,rfl,hob',rfl,by omega,by simp,r1,by omega,r2⟩
  ·simp [yA] at hq2
   refine go ?_
   rw [show IntKind.i64.wrap ((at0 b ((out.length:Nat):Int).toNat:Nat):Int)=((at0 b out.length:Nat):Int) by rw [Int.toNat_natCast,yH (by omega) (by omega)],show arith .sub .i64 (((at0 a out.length:Nat):Int) - (borrow:Int)) ((at0 b out.length:Nat):Int)=((at0 a out.length:Nat):Int) - (borrow:Int) - ((at0 b out.length:Nat):Int) by rw [wY,yH (by omega) (by omega)]]
   refine go ?_
   cases hq3:yA Cm.lss (((at0 a out.length:Nat):Int) - (borrow:Int) - ((at0 b out.length:Nat):Int)) 0
   ·simp only [yA,yI] at hq3
    refine go ?_
    rw [show IntKind.u32.wrap (((at0 a out.length:Nat):Int) - (borrow:Int) - ((at0 b out.length:Nat):Int))=(((((at0 a out.length:Nat):Int) - (borrow:Int) - ((at0 b out.length:Nat):Int)).toNat:Nat):Int) by rw [xH]; omega]
    refine tA (by rfl) (by rfl) hob rfl rfl (by omega) (fun H' b' hob' => ?_)
    refine go ?_
    rw [show arith .add .i64 ((out.length:Nat):Int) 1=((out.length+1:Nat):Int) by rw [xB,yH (by omega) (by omega)]; omega]
    obtain ⟨r1,r2⟩:=round (((at0 a out.length:Nat):Int) - (borrow:Int) - ((at0 b out.length:Nat):Int)).toNat 0 (by omega) (by omega)
    exact l_n (by rfl) (by omega) ⟨out.length+1,b',_,0,_,rfl,hob',rfl,by omega,by simp,r1,by omega,r2⟩
   ·simp only [yA,yG] at hq3
    refine go ?_
    rw [show arith .add .i64 (((at0 a out.length:Nat):Int) - (borrow:Int) - ((at0 b out.length:Nat):Int)) 4294967296=((at0 a out.length:Nat):Int) - (borrow:Int) - ((at0 b out.length:Nat):Int)+4294967296 by rw [xB,yH (by omega) (by omega)]]
    rw [show IntKind.u32.wrap (((at0 a out.length:Nat):Int) - (borrow:Int) - ((at0 b out.length:Nat):Int)+4294967296)=(((((at0 a out.length:Nat):Int) - (borrow:Int) - ((at0 b out.length:Nat):Int)+4294967296).toNat:Nat):Int) by rw [xH]; omega]
    refine tA (by rfl) (by rfl) hob rfl rfl (by omega) (fun H' b' hob' => ?_)
    refine go ?_
    rw [show arith .add .i64 ((out.length:Nat):Int) 1=((out.length+1:Nat):Int) by rw [xB,yH (by omega) (by omega)]; omega]
    obtain ⟨r1,r2⟩:=round (((at0 a out.length:Nat):Int) - (borrow:Int) - ((at0 b out.length:Nat):Int)+4294967296).toNat 1 (by omega) (by omega)
    exact l_n (by rfl) (by omega) ⟨out.length+1,b',_,1,_,rfl,hob',rfl,by omega,by simp,r1,by omega,r2⟩
 ·simp [yA] at h
  refine go ?_
  have el:out.length=a.length:=by omega
  rw [List.take_of_length_le (by omega),List.take_of_length_le (by omega)] at k5
  have hlt:=vV k3
  have hb0:borrow=0:=by
   rcases Nat.lt_or_ge borrow 1 with h0 | h0
   ·omega
   ·have h1:borrow=1:=by omega
    subst h1
    simp at k5
    omega
  subst hb0
  simp at k5
  exact WdK.fz hob rfl k3 ⟨by omega,by omega⟩
end Go.Proofs.YtokckcnfojjpjaaGreat

namespace Go.Proofs.YtokckcnfojjpjaaGreat
open Go.RowKit
set_option maxRecDepth 20000
attribute [local irreducible] yA semH semC qLen qNil qIad qSlc qIdx yU yL yY appX appI slcX awpF yP xE xopF xL qval lval seqQ xD xW xT xP cnd arith IntKind.wrap
def Sz (n:Nat) (z:Int):Prop:=z.natAbs<4294967296 ^ n
theorem xS (neg:Bool) (n:Nat):(amt neg n).natAbs=n:=by cases neg <;> simp [amt]
theorem IsZ.three {cs:List C} {z:Int} (h:IsZ cs z):∃ a b c,cs=[a,b,c]:=by cases h <;> exact ⟨_,_,_,rfl⟩
theorem IsZ.look {cs:List C} {z:Int} (h:IsZ cs z):(cs=[.int .i64 z,.nilSl,.bool false] ∧ -9223372036854775808≤z∧z<9223372036854775808)∨(∃ l neg,cs=[.int .i64 0,.imm l.length (l.map W),.bool neg]∧Norm l∧9223372036854775808≤val l∧z=amt neg (val l)):=by
 cases h with
 | small v h1 h2 => exact .inl ⟨rfl,h1,h2⟩
 | big l neg hn hv => exact .inr ⟨l,neg,rfl,hn,hv,rfl⟩
theorem norm_ge {l:List Nat} (h:Norm l) (h0:0<l.length):4294967296 ^ (l.length - 1)≤val l:=by
 rw [qE l (l.length - 1),uJ (by omega)]
 have h1:=h.2 (fun e => by simp [e] at h0)
 have e1:(l.take (l.length - 1)).length=l.length - 1:=by simp
 rw [e1]
 simp only [val]
 have h4:4294967296 ^ (l.length - 1)*1≤4294967296 ^ (l.length - 1)*(at0 l (l.length - 1)+4294967296*val (l.drop (l.length - 1+1))):=Nat.mul_le_mul_left _ (by omega)
 omega
theorem xY {l:List Nat} {n:Nat} (h:Norm l) (hv:val l<4294967296 ^ n):l.length≤n:=by
 rcases Nat.eq_zero_or_pos l.length with h0 | h0
 ·omega
 ·have h1:=norm_ge h h0
  have h2:4294967296 ^ (l.length - 1)<4294967296 ^ n:=Nat.lt_of_le_of_lt h1 hv
  have h3:l.length - 1<n:=(Nat.pow_lt_pow_iff_right (by decide)).1 h2
  omega
theorem norm_lt {a b:List Nat} (ha:Norm a) (hb:Norm b) (h:a.length<b.length):val a<val b:=by
 have h1:=vV ha.1
 have h2:=norm_ge hb (by omega)
 have h3:4294967296 ^ a.length≤4294967296 ^ (b.length - 1):=Nat.pow_le_pow_right (by decide) (by omega)
 omega
theorem mN {a b:List Nat} {r:Int} (ha:Norm a) (hb:Norm b) (r1:a.length<b.length→r = -1) (r2:b.length<a.length→r=1) (r3:a.length=b.length→r=sgn (val a - val b)) (h:r<0):val a<val b∧a.length≤b.length:=by
 rcases Nat.lt_trichotomy a.length b.length with h1 | h1 | h1
 ·exact ⟨norm_lt ha hb h1,by omega⟩
 ·have:=r3 h1
  unfold sgn at this
  split at this
  ·exact ⟨by omega,by omega⟩
  ·split at this <;> omega
 ·have:=r2 h1
  omega
theorem pS {a b:List Nat} {r:Int} (ha:Norm a) (hb:Norm b) (r1:a.length<b.length→r = -1) (r2:b.length<a.length→r=1) (r3:a.length=b.length→r=sgn (val a - val b)) (h:0≤r):val b≤val a∧b.length≤a.length:=by
 rcases Nat.lt_trichotomy a.length b.length with h1 | h1 | h1
 ·have:=r1 h1
  omega
 ·have:=r3 h1
  unfold sgn at this
  split at this
  ·omega
  ·exact ⟨by omega,by omega⟩
 ·have:=norm_lt hb ha h1
  exact ⟨by omega,by omega⟩
theorem add_fits {x y:Int} (x1:-9223372036854775808≤x) (x2:x<9223372036854775808) (y1:-9223372036854775808≤y) (y2:y<9223372036854775808) (h:dec (arith .add .i64 x y > x)=dec (y > 0)):arith .add .i64 x y=x+y ∧ -9223372036854775808≤x+y∧x+y<9223372036854775808:=by
 have e:arith .add .i64 x y=if (x+y) % 18446744073709551616≥9223372036854775808 then (x+y) % 18446744073709551616 - 18446744073709551616 else (x+y) % 18446744073709551616:=by
  rw [xB,wrap_i64']
 have h':(arith .add .i64 x y > x)↔(y > 0):=by
  rw [←yG (p:=arith .add .i64 x y > x),h,yG]
 rw [e] at h' ⊢
 split at h' <;> omega
theorem gZ {cs ds:List C} {x y:Int} {n:Nat} (hx:IsZ cs x) (hy:IsZ ds y) (sx:Sz n x) (sy:Sz n y) (hn:n≤1073741824):semC Tryz.prog n_num_Z_Add [.agg cs,.agg ds] (ZK (x+y)):=by
 refine yD ok_num_Z_Add rfl (show HFVs [.agg cs,.agg ds] from ⟨hx.hf,hy.hf,trivial⟩) ?_
 unfold Sz at sx sy
 rcases hx.look with ⟨rfl,x1,x2⟩ | ⟨lx,nx,rfl,xn,xv,xe⟩
 ·rcases hy.look with ⟨rfl,y1,y2⟩ | ⟨ly,ny,rfl,yn,yv,ye⟩
  ·refine go ?_
   cases hq:(yA Cm.gtr (arith .add .i64 x y) x == yA Cm.gtr y 0)
   ·refine go ?_
    refine yB (xM hx) (fun u hu => ?_)
    obtain ⟨c1,l1,n1,rfl,w1,o1,e1⟩:=hu
    refine go ?_
    refine yB (xM hy) (fun u hu => ?_)
    obtain ⟨c2,l2,n2,rfl,w2,o2,e2⟩:=hu
    refine go ?_
    have hl1:l1.length≤n:=xY o1 (by rw [e1] at sx; rwa [xS] at sx)
    have hl2:l2.length≤n:=xY o2 (by rw [e2] at sy; rwa [xS] at sy)
    cases n1 <;> cases n2
    ·refine go ?_
     refine yB (pD w1 w2 o1.1 o2.1 (by omega) (by omega)) (fun u hu => ?_)
     obtain ⟨c3,l3,rfl,w3,o3,v3,len3⟩:=hu
     refine go ?_
     refine yB (wC false w3 o3 (by omega)) (fun u hu => ?_)
     obtain ⟨cs3,rfl,z3⟩:=hu
     obtain ⟨a0,a1,a2,rfl⟩:=z3.three
     refine go ?_
     have ez:x+y=amt false (val l3):=by rw [e1,e2,v3]; simp [amt]; try omega
     rw [ez]
     exact ZK.fz z3
    ·refine go ?_
     refine yB (tB w1 w2 o1.1 o2.1 (by omega)) (fun u hu => ?_)
     obtain ⟨r,rfl,r1,r2,r3⟩:=hu
     refine go ?_
     cases hq:yA Cm.geq r 0
     ·simp [yA] at hq
      refine go ?_
      obtain ⟨q1,q2⟩:=mN o1 o2 r1 r2 r3 hq
      refine yB (vW w2 w1 o2.1 o1.1 (by omega) (by omega) (by omega)) (fun u hu => ?_)
      obtain ⟨c3,l3,rfl,w3,o3,v3,len3⟩:=hu
      refine go ?_
      refine yB (wC true w3 o3 (by omega)) (fun u hu => ?_)
      obtain ⟨cs3,rfl,z3⟩:=hu
      obtain ⟨a0,a1,a2,rfl⟩:=z3.three
      refine go ?_
      have ez:x+y=amt true (val l3):=by rw [e1,e2,v3]; simp [amt]; try omega
      rw [ez]
      exact ZK.fz z3
     ·simp [yA] at hq
      refine go ?_
      obtain ⟨q1,q2⟩:=pS o1 o2 r1 r2 r3 hq
      refine yB (vW w1 w2 o1.1 o2.1 (by omega) (by omega) (by omega)) (fun u hu => ?_)
      obtain ⟨c3,l3,rfl,w3,o3,v3,len3⟩:=hu
      refine go ?_
      refine yB (wC false w3 o3 (by omega)) (fun u hu => ?_)
      obtain ⟨cs3,rfl,z3⟩:=hu
      obtain ⟨a0,a1,a2,rfl⟩:=z3.three
      refine go ?_
      have ez:x+y=amt false (val l3):=by rw [e1,e2,v3]; simp [amt]; try omega
      rw [ez]
      exact ZK.fz z3
    ·refine go ?_
     refine yB (tB w1 w2 o1.1 o2.1 (by omega)) (fun u hu => ?_)
     obtain ⟨r,rfl,r1,r2,r3⟩:=hu
     refine go ?_
     cases hq:yA Cm.geq r 0
     ·simp [yA] at hq
      refine go ?_
      obtain ⟨q1,q2⟩:=mN o1 o2 r1 r2 r3 hq
      refine yB (vW w2 w1 o2.1 o1.1 (by omega) (by omega) (by omega)) (fun u hu => ?_)
      obtain ⟨c3,l3,rfl,w3,o3,v3,len3⟩:=hu
      refine go ?_
      refine yB (wC false w3 o3 (by omega)) (fun u hu => ?_)
      obtain ⟨cs3,rfl,z3⟩:=hu
      obtain ⟨a0,a1,a2,rfl⟩:=z3.three
      refine go ?_
      have ez:x+y=amt false (val l3):=by rw [e1,e2,v3]; simp [amt]; try omega
      rw [ez]
      exact ZK.fz z3
     ·simp [yA] at hq
      refine go ?_
      obtain ⟨q1,q2⟩:=pS o1 o2 r1 r2 r3 hq
      refine yB (vW w1 w2 o1.1 o2.1 (by omega) (by omega) (by omega)) (fun u hu => ?_)
      obtain ⟨c3,l3,rfl,w3,o3,v3,len3⟩:=hu
      refine go ?_
      refine yB (wC true w3 o3 (by omega)) (fun u hu => ?_)
      obtain ⟨cs3,rfl,z3⟩:=hu
      obtain ⟨a0,a1,a2,rfl⟩:=z3.three
      refine go ?_
      have ez:x+y=amt true (val l3):=by rw [e1,e2,v3]; simp [amt]; try omega
      rw [ez]
      exact ZK.fz z3
    ·refine go ?_
     refine yB (pD w1 w2 o1.1 o2.1 (by omega) (by omega)) (fun u hu => ?_)
     obtain ⟨c3,l3,rfl,w3,o3,v3,len3⟩:=hu
     refine go ?_
     refine yB (wC true w3 o3 (by omega)) (fun u hu => ?_)
     obtain ⟨cs3,rfl,z3⟩:=hu
     obtain ⟨a0,a1,a2,rfl⟩:=z3.three
     refine go ?_
     have ez:x+y=amt true (val l3):=by rw [e1,e2,v3]; simp [amt]; try omega
     rw [ez]
     exact ZK.fz z3
   ·simp only [yA,beq_iff_eq] at hq
    have hs:arith .add .i64 x y=x+y ∧ -9223372036854775808≤x+y∧x+y<9223372036854775808:=add_fits x1 x2 y1 y2 hq
    refine go ?_
    rw [hs.1]
    exact ZK.fz (.small _ hs.2.1 hs.2.2)
  ·refine go ?_
   refine yB (xM hx) (fun u hu => ?_)
   obtain ⟨c1,l1,n1,rfl,w1,o1,e1⟩:=hu
   refine go ?_
   refine yB (xM hy) (fun u hu => ?_)
   obtain ⟨c2,l2,n2,rfl,w2,o2,e2⟩:=hu
   refine go ?_
   have hl1:l1.length≤n:=xY o1 (by rw [e1] at sx; rwa [xS] at sx)
   have hl2:l2.length≤n:=xY o2 (by rw [e2] at sy; rwa [xS] at sy)
   cases n1 <;> cases n2
   ·refine go ?_
    refine yB (pD w1 w2 o1.1 o2.1 (by omega) (by omega)) (fun u hu => ?_)
    obtain ⟨c3,l3,rfl,w3,o3,v3,len3⟩:=hu
    refine go ?_
    refine yB (wC false w3 o3 (by omega)) (fun u hu => ?_)
    obtain ⟨cs3,rfl,z3⟩:=hu
    obtain ⟨a0,a1,a2,rfl⟩:=z3.three
    refine go ?_
    have ez:x+y=amt false (val l3):=by rw [e1,e2,v3]; simp [amt]; try omega
    rw [ez]
    exact ZK.fz z3
   ·refine go ?_
    refine yB (tB w1 w2 o1.1 o2.1 (by omega)) (fun u hu => ?_)
    obtain ⟨r,rfl,r1,r2,r3⟩:=hu
    refine go ?_
    cases hq:yA Cm.geq r 0
    ·simp [yA] at hq
     refine go ?_
     obtain ⟨q1,q2⟩:=mN o1 o2 r1 r2 r3 hq
     refine yB (vW w2 w1 o2.1 o1.1 (by omega) (by omega) (by omega)) (fun u hu => ?_)
     obtain ⟨c3,l3,rfl,w3,o3,v3,len3⟩:=hu
     refine go ?_
     refine yB (wC true w3 o3 (by omega)) (fun u hu => ?_)
     obtain ⟨cs3,rfl,z3⟩:=hu
     obtain ⟨a0,a1,a2,rfl⟩:=z3.three
     refine go ?_
     have ez:x+y=amt true (val l3):=by rw [e1,e2,v3]; simp [amt]; try omega
     rw [ez]
     exact ZK.fz z3
    ·simp [yA] at hq
     refine go ?_
     obtain ⟨q1,q2⟩:=pS o1 o2 r1 r2 r3 hq
     refine yB (vW w1 w2 o1.1 o2.1 (by omega) (by omega) (by omega)) (fun u hu => ?_)
     obtain ⟨c3,l3,rfl,w3,o3,v3,len3⟩:=hu
     refine go ?_
     refine yB (wC false w3 o3 (by omega)) (fun u hu => ?_)
     obtain ⟨cs3,rfl,z3⟩:=hu
     obtain ⟨a0,a1,a2,rfl⟩:=z3.three
     refine go ?_
     have ez:x+y=amt false (val l3):=by rw [e1,e2,v3]; simp [amt]; try omega
     rw [ez]
     exact ZK.fz z3
   ·refine go ?_
    refine yB (tB w1 w2 o1.1 o2.1 (by omega)) (fun u hu => ?_)
    obtain ⟨r,rfl,r1,r2,r3⟩:=hu
    refine go ?_
    cases hq:yA Cm.geq r 0
    ·simp [yA] at hq
     refine go ?_
     obtain ⟨q1,q2⟩:=mN o1 o2 r1 r2 r3 hq
     refine yB (vW w2 w1 o2.1 o1.1 (by omega) (by omega) (by omega)) (fun u hu => ?_)
     obtain ⟨c3,l3,rfl,w3,o3,v3,len3⟩:=hu
     refine go ?_
     refine yB (wC false w3 o3 (by omega)) (fun u hu => ?_)
     obtain ⟨cs3,rfl,z3⟩:=hu
     obtain ⟨a0,a1,a2,rfl⟩:=z3.three
     refine go ?_
     have ez:x+y=amt false (val l3):=by rw [e1,e2,v3]; simp [amt]; try omega
     rw [ez]
     exact ZK.fz z3
    ·simp [yA] at hq
     refine go ?_
     obtain ⟨q1,q2⟩:=pS o1 o2 r1 r2 r3 hq
     refine yB (vW w1 w2 o1.1 o2.1 (by omega) (by omega) (by omega)) (fun u hu => ?_)
     obtain ⟨c3,l3,rfl,w3,o3,v3,len3⟩:=hu
     refine go ?_
     refine yB (wC true w3 o3 (by omega)) (fun u hu => ?_)
     obtain ⟨cs3,rfl,z3⟩:=hu
     obtain ⟨a0,a1,a2,rfl⟩:=z3.three
     refine go ?_
     have ez:x+y=amt true (val l3):=by rw [e1,e2,v3]; simp [amt]; try omega
     rw [ez]
     exact ZK.fz z3
   ·refine go ?_
    refine yB (pD w1 w2 o1.1 o2.1 (by omega) (by omega)) (fun u hu => ?_)
    obtain ⟨c3,l3,rfl,w3,o3,v3,len3⟩:=hu
    refine go ?_
    refine yB (wC true w3 o3 (by omega)) (fun u hu => ?_)
    obtain ⟨cs3,rfl,z3⟩:=hu
    obtain ⟨a0,a1,a2,rfl⟩:=z3.three
    refine go ?_
    have ez:x+y=amt true (val l3):=by rw [e1,e2,v3]; simp [amt]; try omega
    rw [ez]
    exact ZK.fz z3
 ·obtain ⟨d0,d1,d2,rfl⟩:=hy.three
  refine go ?_
  refine yB (xM hx) (fun u hu => ?_)
  obtain ⟨c1,l1,n1,rfl,w1,o1,e1⟩:=hu
  refine go ?_
  refine yB (xM hy) (fun u hu => ?_)
  obtain ⟨c2,l2,n2,rfl,w2,o2,e2⟩:=hu
  refine go ?_
  have hl1:l1.length≤n:=xY o1 (by rw [e1] at sx; rwa [xS] at sx)
  have hl2:l2.length≤n:=xY o2 (by rw [e2] at sy; rwa [xS] at sy)
  cases n1 <;> cases n2
  ·refine go ?_
   refine yB (pD w1 w2 o1.1 o2.1 (by omega) (by omega)) (fun u hu => ?_)
   obtain ⟨c3,l3,rfl,w3,o3,v3,len3⟩:=hu
   refine go ?_
   refine yB (wC false w3 o3 (by omega)) (fun u hu => ?_)
   obtain ⟨cs3,rfl,z3⟩:=hu
   obtain ⟨a0,a1,a2,rfl⟩:=z3.three
   refine go ?_
   have ez:x+y=amt false (val l3):=by rw [e1,e2,v3]; simp [amt]; try omega
   rw [ez]
   exact ZK.fz z3
  ·refine go ?_
   refine yB (tB w1 w2 o1.1 o2.1 (by omega)) (fun u hu => ?_)
   obtain ⟨r,rfl,r1,r2,r3⟩:=hu
   refine go ?_
   cases hq:yA Cm.geq r 0
   ·simp [yA] at hq
    refine go ?_
    obtain ⟨q1,q2⟩:=mN o1 o2 r1 r2 r3 hq
    refine yB (vW w2 w1 o2.1 o1.1 (by omega) (by omega) (by omega)) (fun u hu => ?_)
    obtain ⟨c3,l3,rfl,w3,o3,v3,len3⟩:=hu
    refine go ?_
    refine yB (wC true w3 o3 (by omega)) (fun u hu => ?_)
    obtain ⟨cs3,rfl,z3⟩:=hu
    obtain ⟨a0,a1,a2,rfl⟩:=z3.three
    refine go ?_
    have ez:x+y=amt true (val l3):=by rw [e1,e2,v3]; simp [amt]; try omega
    rw [ez]
    exact ZK.fz z3
   ·simp [yA] at hq
    refine go ?_
    obtain ⟨q1,q2⟩:=pS o1 o2 r1 r2 r3 hq
    refine yB (vW w1 w2 o1.1 o2.1 (by omega) (by omega) (by omega)) (fun u hu => ?_)
    obtain ⟨c3,l3,rfl,w3,o3,v3,len3⟩:=hu
    refine go ?_
    refine yB (wC false w3 o3 (by omega)) (fun u hu => ?_)
    obtain ⟨cs3,rfl,z3⟩:=hu
    obtain ⟨a0,a1,a2,rfl⟩:=z3.three
    refine go ?_
    have ez:x+y=amt false (val l3):=by rw [e1,e2,v3]; simp [amt]; try omega
    rw [ez]
    exact ZK.fz z3
  ·refine go ?_
   refine yB (tB w1 w2 o1.1 o2.1 (by omega)) (fun u hu => ?_)
   obtain ⟨r,rfl,r1,r2,r3⟩:=hu
   refine go ?_
   cases hq:yA Cm.geq r 0
   ·simp [yA] at hq
    refine go ?_
    obtain ⟨q1,q2⟩:=mN o1 o2 r1 r2 r3 hq
    refine yB (vW w2 w1 o2.1 o1.1 (by omega) (by omega) (by omega)) (fun u hu => ?_)
    obtain ⟨c3,l3,rfl,w3,o3,v3,len3⟩:=hu
    refine go ?_
    refine yB (wC false w3 o3 (by omega)) (fun u hu => ?_)
    obtain ⟨cs3,rfl,z3⟩:=hu
    obtain ⟨a0,a1,a2,rfl⟩:=z3.three
    refine go ?_
    have ez:x+y=amt false (val l3):=by rw [e1,e2,v3]; simp [amt]; try omega
    rw [ez]
    exact ZK.fz z3
   ·simp [yA] at hq
    refine go ?_
    obtain ⟨q1,q2⟩:=pS o1 o2 r1 r2 r3 hq
    refine yB (vW w1 w2 o1.1 o2.1 (by omega) (by omega) (by omega)) (fun u hu => ?_)
    obtain ⟨c3,l3,rfl,w3,o3,v3,len3⟩:=hu
    refine go ?_
    refine yB (wC true w3 o3 (by omega)) (fun u hu => ?_)
    obtain ⟨cs3,rfl,z3⟩:=hu
    obtain ⟨a0,a1,a2,rfl⟩:=z3.three
    refine go ?_
    have ez:x+y=amt true (val l3):=by rw [e1,e2,v3]; simp [amt]; try omega
    rw [ez]
    exact ZK.fz z3
  ·refine go ?_
   refine yB (pD w1 w2 o1.1 o2.1 (by omega) (by omega)) (fun u hu => ?_)
   obtain ⟨c3,l3,rfl,w3,o3,v3,len3⟩:=hu
   refine go ?_
   refine yB (wC true w3 o3 (by omega)) (fun u hu => ?_)
   obtain ⟨cs3,rfl,z3⟩:=hu
   obtain ⟨a0,a1,a2,rfl⟩:=z3.three
   refine go ?_
   have ez:x+y=amt true (val l3):=by rw [e1,e2,v3]; simp [amt]; try omega
   rw [ez]
   exact ZK.fz z3
theorem bG (v:Int) (h1:-9223372036854775808≤v) (h2:v<9223372036854775808):semC Tryz.prog n_num_I [i64 v] (ZK v):=by
 refine yD ok_num_I rfl (show HFVs [i64 v] from ⟨trivial,trivial⟩) ?_
 refine go ?_
 exact ZK.fz (.small v h1 h2)
def IntK (n:Int) (u:V):Prop:=u=i64 n
theorem IntK.fz {n:Int} {H:Hp}:∃ d,FzV H (i64 n) d∧IntK n d:=⟨_,.c (.hf trivial),rfl⟩
theorem sgn_amt {neg:Bool} {n:Nat} (h:0<n):sgn (amt neg n)=bif neg then -1 else 1:=by
 cases neg <;> simp [sgn,amt] <;> omega
theorem pR {cs:List C} {x:Int} (hx:IsZ cs x):semC Tryz.prog n_num_Z_Sign [.agg cs] (IntK (sgn x)):=by
 refine yD ok_num_Z_Sign rfl (show HFVs [.agg cs] from ⟨hx.hf,trivial⟩) ?_
 rcases hx.look with ⟨rfl,x1,x2⟩ | ⟨lx,nx,rfl,xn,xv,xe⟩
 ·refine go ?_
  cases hq:yA Cm.lss x 0
  ·simp [yA] at hq
   refine go ?_
   cases hq2:yA Cm.eql x 0
   ·simp [yA] at hq2
    refine go ?_
    rw [show sgn x=1 by unfold sgn; rw [if_neg (by omega),if_neg hq2]]
    exact IntK.fz
   ·simp [yA] at hq2
    refine go ?_
    rw [show sgn x=0 by unfold sgn; rw [if_neg (by omega),if_pos hq2]]
    exact IntK.fz
  ·simp [yA] at hq
   refine go ?_
   rw [show sgn x = -1 by unfold sgn; rw [if_pos hq]]
   exact IntK.fz
 ·rw [xe,sgn_amt (by omega)]
  cases nx
  ·refine go ?_
   exact IntK.fz
  ·refine go ?_
   exact IntK.fz
theorem nO {cs:List C} {x:Int} {n:Nat} (hx:IsZ cs x) (sx:Sz n x) (hn:n≤1073741824):semC Tryz.prog n_num_Z_Neg [.agg cs] (ZK (-x)):=by
 refine yD ok_num_Z_Neg rfl (show HFVs [.agg cs] from ⟨hx.hf,trivial⟩) ?_
 unfold Sz at sx
 rcases hx.look with ⟨rfl,x1,x2⟩ | ⟨lx,nx,rfl,xn,xv,xe⟩
 ·refine go ?_
  cases hq:yA Cm.neq x (-9223372036854775808)
  ·simp [yA] at hq
   refine go ?_
   refine yB (xM hx) (fun u hu => ?_)
   obtain ⟨c1,l1,n1,rfl,w1,o1,e1⟩:=hu
   refine go ?_
   have hl1:l1.length≤n:=xY o1 (by rw [e1] at sx; rwa [xS] at sx)
   refine yB (wC (!n1) w1 o1.1 (by omega)) (fun u hu => ?_)
   obtain ⟨cs3,rfl,z3⟩:=hu
   obtain ⟨a0,a1,a2,rfl⟩:=z3.three
   refine go ?_
   rw [e1,show -amt n1 (val l1)=amt (!n1) (val l1) by cases n1 <;> simp [amt]]
   exact ZK.fz z3
  ·simp [yA] at hq
   refine go ?_
   rw [yH (by omega) (by omega),Int.zero_sub]
   exact ZK.fz (.small _ (by omega) (by omega))
 ·refine go ?_
  refine yB (xM hx) (fun u hu => ?_)
  obtain ⟨c1,l1,n1,rfl,w1,o1,e1⟩:=hu
  refine go ?_
  have hl1:l1.length≤n:=xY o1 (by rw [e1] at sx; rwa [xS] at sx)
  refine yB (wC (!n1) w1 o1.1 (by omega)) (fun u hu => ?_)
  obtain ⟨cs3,rfl,z3⟩:=hu
  obtain ⟨a0,a1,a2,rfl⟩:=z3.three
  refine go ?_
  rw [e1,show -amt n1 (val l1)=amt (!n1) (val l1) by cases n1 <;> simp [amt]]
  exact ZK.fz z3
theorem num_Z_Abs {cs:List C} {x:Int} {n:Nat} (hx:IsZ cs x) (sx:Sz n x) (hn:n≤1073741824):semC Tryz.prog n_num_Z_Abs [.agg cs] (ZK x.natAbs):=by
 refine yD ok_num_Z_Abs rfl (show HFVs [.agg cs] from ⟨hx.hf,trivial⟩) ?_
 obtain ⟨c0,c1,c2,rfl⟩:=hx.three
 refine go ?_
 refine yB (pR hx) (fun u hu => ?_)
 obtain rfl:=hu
 refine go ?_
 cases hq:yA Cm.lss (sgn x) 0
 ·simp [yA] at hq
  refine go ?_
  have:(x.natAbs:Int)=x:=by
   unfold sgn at hq
   split at hq <;> omega
  rw [this]
  exact ZK.fz hx
 ·simp [yA] at hq
  refine go ?_
  refine yB (nO hx sx hn) (fun u hu => ?_)
  obtain ⟨ds,rfl,hd⟩:=hu
  obtain ⟨d0,d1,d2,rfl⟩:=hd.three
  refine go ?_
  have:(x.natAbs:Int) = -x:=by
   unfold sgn at hq
   split at hq
   ·omega
   ·split at hq <;> omega
  rw [this]
  exact ZK.fz hd
theorem Sz.neg {n:Nat} {x:Int} (h:Sz n x):Sz n (-x):=by
 unfold Sz at h ⊢
 rwa [Int.natAbs_neg]
theorem num_Z_Sub {cs ds:List C} {x y:Int} {n:Nat} (hx:IsZ cs x) (hy:IsZ ds y) (sx:Sz n x) (sy:Sz n y) (hn:n≤1073741824):semC Tryz.prog n_num_Z_Sub [.agg cs,.agg ds] (ZK (x - y)):=by
 refine yD ok_num_Z_Sub rfl (show HFVs [.agg cs,.agg ds] from ⟨hx.hf,hy.hf,trivial⟩) ?_
 obtain ⟨c0,c1,c2,rfl⟩:=hx.three
 obtain ⟨d0,d1,d2,rfl⟩:=hy.three
 refine go ?_
 refine yK (nO hy sy hn) (fun u hu => ?_)
 obtain ⟨es,rfl,he⟩:=hu
 refine go ?_
 refine yK (gZ hx he sx sy.neg hn) (fun u hu => ?_)
 obtain ⟨fs,rfl,hf⟩:=hu
 obtain ⟨f0,f1,f2,rfl⟩:=hf.three
 refine go ?_
 rw [Int.sub_eq_add_neg]
 exact ZK.fz hf
theorem num_Z_Cmp {cs ds:List C} {x y:Int} {n:Nat} (hx:IsZ cs x) (hy:IsZ ds y) (sx:Sz n x) (sy:Sz n y) (hn:n≤1073741824):semC Tryz.prog n_num_Z_Cmp [.agg cs,.agg ds] (IntK (sgn (x - y))):=by
 refine yD ok_num_Z_Cmp rfl (show HFVs [.agg cs,.agg ds] from ⟨hx.hf,hy.hf,trivial⟩) ?_
 have hsub:=num_Z_Sub hx hy sx sy hn
 rcases hx.look with ⟨rfl,x1,x2⟩ | ⟨lx,nx,rfl,xn,xv,xe⟩
 ·rcases hy.look with ⟨rfl,y1,y2⟩ | ⟨ly,ny,rfl,yn,yv,ye⟩
  ·refine go ?_
   cases hq:yA Cm.lss x y
   ·simp [yA] at hq
    refine go ?_
    cases hq2:yA Cm.gtr x y
    ·simp [yA] at hq2
     refine go ?_
     rw [show sgn (x - y)=0 by unfold sgn; rw [if_neg (by omega),if_pos (by omega)]]
     exact IntK.fz
    ·simp [yA] at hq2
     refine go ?_
     rw [show sgn (x - y)=1 by unfold sgn; rw [if_neg (by omega),if_neg (by omega)]]
     exact IntK.fz
   ·simp [yA] at hq
    refine go ?_
    rw [show sgn (x - y) = -1 by unfold sgn; rw [if_pos (by omega)]]
    exact IntK.fz
  ·refine go ?_
   refine yB hsub (fun u hu => ?_)
   obtain ⟨cs3,rfl,z3⟩:=hu
   refine go ?_
   refine yB (pR z3) (fun u hu => ?_)
   obtain rfl:=hu
   refine go ?_
   exact IntK.fz
 ·obtain ⟨d0,d1,d2,rfl⟩:=hy.three
  refine go ?_
  refine yB hsub (fun u hu => ?_)
  obtain ⟨cs3,rfl,z3⟩:=hu
  refine go ?_
  refine yB (pR z3) (fun u hu => ?_)
  obtain rfl:=hu
  refine go ?_
  exact IntK.fz
end Go.Proofs.YtokckcnfojjpjaaGreat

namespace Go.Proofs.YtokckcnfojjpjaaGreat
open Go.RowKit
set_option maxRecDepth 20000
theorem and32 (a:Nat) (ha:a<18446744073709551616):arith .and .u64 (a:Int) 4294967295=((a % 4294967296:Nat):Int):=by
 have h:=bits_and_u64_nat a 4294967295 ha (by omega)
 have e:a &&& 4294967295=a % 4294967296:=Nat.and_two_pow_sub_one_eq_mod a 32
 rw [e] at h
 exact h
theorem nat_div32 (a:Nat):(a:Int) / 4294967296=((a / 4294967296:Nat):Int):=by omega
theorem nat_mul (a b:Nat):(a:Int)*(b:Int)=((a*b:Nat):Int):=(Int.natCast_mul a b).symm
theorem nat_add (a b:Nat):(a:Int)+(b:Int)=((a+b:Nat):Int):=(Int.natCast_add a b).symm
theorem xQ (a:Nat) (ha:a<18446744073709551616):IntKind.u64.wrap (a:Int)=(a:Int):=by rw [xN]; omega
theorem wrapM (a:Nat):IntKind.u64.wrap (a:Int)=((a % 18446744073709551616:Nat):Int):=by rw [xN]; omega
theorem mulN (a b:Nat) (h:a*b<18446744073709551616):arith .mul .u64 (a:Int) (b:Int)=((a*b:Nat):Int):=by rw [ar_mul,nat_mul,xQ _ h]
theorem mulM (a b:Nat):arith .mul .u64 (a:Int) (b:Int)=((a*b % 18446744073709551616:Nat):Int):=by rw [ar_mul,nat_mul,wrapM]
theorem addN (a b:Nat) (h:a+b<18446744073709551616):arith .add .u64 (a:Int) (b:Int)=((a+b:Nat):Int):=by rw [xB,nat_add,xQ _ h]
theorem shrN (a:Nat):((a:Nat):Int).fdiv (2 ^ (min (32:Int).toNat IntKind.u64.bits))=((a / 4294967296:Nat):Int):=by rw [bI,nat_div32]
theorem sW:∀ (l:List Nat) (k w:Nat),k<l.length→val (l.set k w)+4294967296 ^ k*at0 l k=val l+4294967296 ^ k*w
 | [],k,w,h => by simp at h
 | x :: r,0,w,h => by
  simp [val,at0]
  omega
 | x :: r,k+1,w,h => by
  have ih:=sW r k w (by simpa using h)
  have e:at0 (x :: r) (k+1)=at0 r k:=by simp [at0]
  rw [e]
  simp only [List.set_cons_succ,val]
  rw [Nat.pow_succ,Nat.mul_comm (4294967296 ^ k) 4294967296,Nat.mul_assoc,Nat.mul_assoc]
  omega
theorem wA {l:List Nat} {k m w:Nat} (h:k<m):at0 (l.set k w) m=at0 l m:=by
 simp [at0,List.getElem?_set_ne (by omega:k≠m)]
theorem OkW.set {l:List Nat} {k w:Nat} (h:OkW l) (hw:w<4294967296):OkW (l.set k w):=fun x hx => by
 rcases List.mem_or_eq_of_mem_set hx with h1 | h1
 ·exact h x h1
 ·omega
theorem splice_set {l:List Nat} {k w:Nat} (h:k<l.length):splice (l.map W) k [W w]=(l.set k w).map W:=by
 unfold splice
 rw [List.map_set,List.set_eq_take_append_cons_drop]
 simp [h]
theorem cell_at {l:List Nat} {k:Nat} (h:k<l.length):(l.map W)[k]?=some (.int .u32 (at0 l k:Nat)):=by
 simp [at0,h,W]
theorem zeros (n:Nat):(List.replicate n [C.int .u32 0]).flatten=(List.replicate n 0).map W:=by
 induction n with
 | zero => rfl
 | succ n ih => simp [List.replicate_succ,ih,W]
theorem sC (n:Nat):val (List.replicate n 0)=0:=by
 induction n with
 | zero => rfl
 | succ n ih => simp [List.replicate_succ,val,ih]
theorem uV (n k:Nat):at0 (List.replicate n 0) k=0:=by
 unfold at0
 rw [List.getD_eq_getElem?_getD,List.getElem?_replicate]
 split <;> rfl
theorem xI {l:List Nat} {n:Nat} (h:l.length≤n):val (l.take n)=val l:=by rw [List.take_of_length_le h]
attribute [local irreducible] yA semH semC qLen qNil qIad qSlc qIdx yU yL yY appX appI slcX awpF yP xE xopF xL qval lval seqQ xD xW xT xP cnd arith IntKind.wrap
theorem mP {x y:Nat} (hx:x<18446744073709551616) (hy:y<18446744073709551616):semC Tryz.prog n_bits_Mul64 [.c (.int .u64 (x:Int)),.c (.int .u64 (y:Int))] (fun u => u=.tup [.c (.int .u64 ((x*y / 18446744073709551616:Nat):Int)),.c (.int .u64 ((x*y % 18446744073709551616:Nat):Int))]):=by
 refine yD ok_bits_Mul64 rfl (show HFVs [.c (.int .u64 (x:Int)),.c (.int .u64 (y:Int))] from ⟨trivial,trivial,trivial⟩) ?_
 obtain ⟨bd,bt,bw,hhi⟩:=Lib.mul64_hi x y hx hy
 have ba:=Lib.half_mul_le (a:=x / 4294967296) (b:=y / 4294967296) (by omega) (by omega)
 have bb:=Lib.half_mul_le (a:=x / 4294967296) (b:=y % 4294967296) (by omega) (by omega)
 have bc:=Lib.half_mul_le (a:=x % 4294967296) (b:=y / 4294967296) (by omega) (by omega)
 refine go ?_
 rw [and32 x hx,and32 y hy,shrN x,shrN y,mulN _ _ bd,shrN,mulN (x / 4294967296) (y % 4294967296) (by omega),addN _ _ bt,and32 _ bt,shrN,mulN (x % 4294967296) (y / 4294967296) (by omega),addN _ _ bw,shrN,mulN (x / 4294967296) (y / 4294967296) (by omega),addN _ _ (by omega),addN _ _ (by omega),hhi,mulM]
 exact ⟨_,.tup (.cons (.c (.hf trivial)) (.cons (.c (.hf trivial)) .nil)),rfl⟩
theorem wS {s:Option Slot} {size off k:Nat} {l:List Nat} {el:TypeId} {kd:BK} {K:V→Prop} (h:s=some (.live ⟨l.map W,el,kd⟩)) (ho:off=k) (hk:k<l.length) (kk:K (.c (.int .u32 (at0 l k:Nat)))):yU s false size off K:=by
 subst ho
 exact yS h (cell_at hk) kk
theorem wD {s:Option Slot} {b off k w:Nat} {l:List Nat} {el:TypeId} {ds:Option (List C)} {K:Nat→Slot→Prop} (h:s=some (.live ⟨l.map W,el,.rw⟩)) (h2:ds=some [.int .u32 (w:Nat)]) (ho:off=k) (hk:k<l.length) (kk:K b (.live ⟨(l.set k w).map W,el,.rw⟩)):yY s b 1 off ds K:=by
 subst ho
 refine xA h h2 rfl (by simp; omega) ?_
 have:=splice_set (w:=w) hk
 unfold W at this ⊢
 rw [this]
 exact kk
theorem qO {out:List Nat} {k x y carry:Nat} (hk:k<out.length) (ho:OkW out) (hx:x<4294967296) (hy:y<4294967296) (hc:carry<4294967296) :
  x*y+at0 out k+carry<18446744073709551616∧(x*y+at0 out k+carry) / 4294967296<4294967296 ∧
  val (out.set k ((x*y+at0 out k+carry) % 4294967296))+4294967296 ^ (k+1)*((x*y+at0 out k+carry) / 4294967296)=val out+4294967296 ^ k*carry+4294967296 ^ k*(x*y):=by
 have h1:x*y≤4294967295*4294967295:=Nat.mul_le_mul (by omega) (by omega)
 have h2:=ho.get k
 refine ⟨by omega,by omega,?_⟩
 have h3:=sW out k ((x*y+at0 out k+carry) % 4294967296) hk
 have h4:=Nat.div_add_mod (x*y+at0 out k+carry) 4294967296
 have h5:4294967296 ^ k*((x*y+at0 out k+carry) % 4294967296)+4294967296 ^ k*4294967296*((x*y+at0 out k+carry) / 4294967296)=4294967296 ^ k*(x*y+at0 out k+carry):=by
  rw [Nat.mul_assoc,←Nat.mul_add,Nat.add_comm,h4]
 rw [Nat.mul_add,Nat.mul_add] at h5
 rw [Nat.pow_succ]
 omega
theorem ref01_times {c d:C} {a b:List Nat} (hc:Wd c a) (hd:Wd d b) (ha:OkW a) (hb:OkW b) (hl:a.length<2147483648) (hl':b.length<2147483648):semC Tryz.prog n_ref01_times [.c c,.c d] (fun u => ∃ c' l',u=.c c'∧Wd c' l'∧Norm l'∧val l'=val a*val b):=by
 refine yD ok_ref01_times rfl (show HFVs [.c c,.c d] from ⟨hc.hf,hd.hf,trivial⟩) ?_
 refine go ?_
 have e:arith .add .i64 (a.length:Int) b.length=((a.length+b.length:Nat):Int):=by
  rw [xB,yH (by omega) (by omega)]
  omega
 rw [e]
 refine wX (by rfl) (by rfl) ⟨by omega,by omega,by omega,by omega⟩ ?_
 rw [Int.toNat_natCast,zeros]
 refine go ?_
 refine yR (fun n vs H => ∃ (i:Nat) (out:List Nat),vs=[.c c,.c d,.c (.sl 0 0 (a.length+b.length) (some (a.length+b.length)) 1),i64 (i:Int)]∧H=[.live ⟨out.map W,yT,.rw⟩]∧n=a.length - i∧i≤a.length∧out.length=a.length+b.length∧OkW out∧val out=val (a.take i)*val b∧∀ k,i+b.length≤k→at0 out k=0) (by rfl) ⟨0,_,rfl,rfl,rfl,by omega,by simp,fun x hx => by simp at hx; omega,by simp [val,sC],fun k _ => uV _ k⟩ ?_
 rintro n vs H ⟨i,out,rfl,rfl,rfl,k1,k2,k3,k4,k5⟩
 refine go ?_
 refine xR (fun h => ?_) (fun h => ?_)
 ·simp [yA] at h
  refine go ?_
  refine yR (fun n vs H => ∃ (j carry:Nat) (o2:List Nat),vs=[.c c,.c d,.c (.sl 0 0 (a.length+b.length) (some (a.length+b.length)) 1),i64 (i:Int),.c (.int .u64 (carry:Int)),i64 (j:Int)]∧H=[.live ⟨o2.map W,yT,.rw⟩]∧n=b.length - j∧j≤b.length∧o2.length=a.length+b.length∧OkW o2∧carry<4294967296∧val o2+4294967296 ^ (i+j)*carry=val out+4294967296 ^ i*(at0 a i*val (b.take j))∧∀ k,i+j≤k→at0 o2 k=at0 out k) (by rfl) ⟨0,0,out,rfl,rfl,rfl,by omega,k2,k3,by omega,by simp [val],fun k _ => rfl⟩ ?_
  rintro n vs H ⟨j,carry,o2,rfl,rfl,rfl,j1,j2,j3,j4,j5,j6⟩
  refine go ?_
  refine xR (fun h' => ?_) (fun h' => ?_)
  ·simp [yA] at h'
   refine go ?_
   have e2:arith .add .i64 ((i:Nat):Int) ((j:Nat):Int)=((i+j:Nat):Int):=by
    rw [xB,yH (by omega) (by omega)]
    omega
   have ga:=ha.get i
   have gb:=hb.get j
   have gw:=j3.get (i+j)
   obtain ⟨r1,r2,r3⟩:=qO (k:=i+j) (out:=o2) (by omega) j3 ga gb j4
   have r0:at0 a i*at0 b j<18446744073709551616:=by omega
   rw [e2,Int.toNat_natCast,Int.toNat_natCast,xQ _ (by omega:at0 a i<18446744073709551616),xQ _ (by omega:at0 b j<18446744073709551616),mulN _ _ r0]
   refine yJ (by rfl) (by rfl) (by omega) (by omega) ?_
   refine go ?_
   refine wS (k:=i+j) (by rfl) (by omega) (by omega) ?_
   refine go ?_
   rw [xQ _ (by omega:at0 o2 (i+j)<18446744073709551616),addN _ _ (by omega),show arith .add .u64 ((carry:Nat):Int) ((at0 a i*at0 b j+at0 o2 (i+j):Nat):Int)=((at0 a i*at0 b j+at0 o2 (i+j)+carry:Nat):Int) by rw [addN _ _ (by omega)]; congr 1; omega]
   rw [e2]
   refine yJ (by rfl) (by rfl) (by omega) (by omega) ?_
   rw [show IntKind.u32.wrap ((at0 a i*at0 b j+at0 o2 (i+j)+carry:Nat):Int)=(((at0 a i*at0 b j+at0 o2 (i+j)+carry) % 4294967296:Nat):Int) by rw [xH]; omega]
   refine go ?_
   refine wD (k:=i+j) (by rfl) (by rfl) (by omega) (by omega) ?_
   refine go ?_
   rw [shrN,show arith .add .i64 ((j:Nat):Int) 1=((j+1:Nat):Int) by rw [xB,yH (by omega) (by omega)]; omega]
   refine l_n (by rfl) (by omega) ⟨j+1,_,_,rfl,rfl,rfl,by omega,by simp [j2],j3.set (by omega),r2,?_,fun k hk => ?_⟩
   ·rw [yE,Nat.mul_add,Nat.mul_add,←Nat.add_assoc,←Nat.add_assoc,←j5]
    have e4:4294967296 ^ i*(at0 a i*(4294967296 ^ j*at0 b j))=4294967296 ^ (i+j)*(at0 a i*at0 b j):=by
     rw [Nat.pow_add,Nat.mul_left_comm (at0 a i),Nat.mul_assoc]
    rw [e4]
    exact r3
   ·rw [wA (by omega)]
    exact j6 k (by omega)
  ·simp [yA] at h'
   have ej:j=b.length:=by omega
   subst ej
   refine go ?_
   have e2:arith .add .i64 ((i:Nat):Int) b.length=((i+b.length:Nat):Int):=by
    rw [xB,yH (by omega) (by omega)]
    omega
   rw [e2]
   refine yJ (by rfl) (by rfl) (by omega) (by omega) ?_
   rw [show IntKind.u32.wrap ((carry:Nat):Int)=((carry:Nat):Int) by rw [xH]; omega]
   refine go ?_
   refine wD (k:=i+b.length) (by rfl) (by rfl) (by omega) (by omega) ?_
   refine go ?_
   rw [show arith .add .i64 ((i:Nat):Int) 1=((i+1:Nat):Int) by rw [xB,yH (by omega) (by omega)]; omega]
   refine l_n (by rfl) (by omega) ⟨i+1,_,rfl,rfl,rfl,by omega,by simp [j2],j3.set j4,?_,fun k hk => ?_⟩
   ·have v1:=sW o2 (i+b.length) carry (by omega)
    rw [j6 _ (by omega),k5 _ (by omega)] at v1
    rw [xI (Nat.le_refl _)] at j5
    rw [yE,Nat.add_mul,←k4,Nat.mul_assoc]
    omega
   ·rw [wA (by omega),j6 _ (by omega)]
    exact k5 _ (by omega)
 ·simp [yA] at h
  have ei:i=a.length:=by omega
  subst ei
  rw [xI (Nat.le_refl _)] at k4
  refine go ?_
  refine yV [0] (.cons (.c (wT out (by rfl) rfl (by simp) k2.symm (by rw [←k2]; exact List.take_of_length_le (by simp)))) .nil) (qQ (.imm out) (by omega)) (fun u hu => ?_)
  obtain ⟨c',l',rfl,w1,p1,v1,t1⟩:=hu
  refine go ?_
  exact ⟨_,.c (.hf w1.hf),c',l',rfl,w1,⟨fun x hx => k3 x (p1.subset hx),t1⟩,by rw [v1,k4]⟩
end Go.Proofs.YtokckcnfojjpjaaGreat

namespace Go.Proofs.YtokckcnfojjpjaaGreat
open Go.RowKit
set_option maxRecDepth 20000
attribute [local irreducible] yA semH semC qLen qNil qIad qSlc qIdx yU yL yY appX appI slcX awpF yP xE xopF xL qval lval seqQ xD xW xT xP cnd arith IntKind.wrap
theorem jJ (a b:Bool) (m n:Nat):amt a m*amt b n=amt (bif true then !(a == b) else (a == b)) (m*n):=by
 cases a <;> cases b <;> simp [amt,Int.mul_neg,Int.neg_mul]
set_option maxHeartbeats 4000000 in
theorem uI {cs ds:List C} {x y:Int} {n:Nat} (hx:IsZ cs x) (hy:IsZ ds y) (sx:Sz n x) (sy:Sz n y) (hn:n≤1073741824):semC Tryz.prog n_num_Z_Mul [.agg cs,.agg ds] (ZK (x*y)):=by
 refine yD ok_num_Z_Mul rfl (show HFVs [.agg cs,.agg ds] from ⟨hx.hf,hy.hf,trivial⟩) ?_
 unfold Sz at sx sy
 rcases hx.look with ⟨rfl,x1,x2⟩ | ⟨lx,nx,rfl,xn,xv,xe⟩
 ·rcases hy.look with ⟨rfl,y1,y2⟩ | ⟨ly,ny,rfl,yn,yv,ye⟩
  ·refine go ?_
   cases hq:yA Cm.lss x 0
   ·have hq0:=hq
    simp [yA] at hq
    refine go ?_
    cases hr:yA Cm.lss y 0
    ·have hr0:=hr
     simp [yA] at hr
     refine go ?_
     rw [show IntKind.u64.wrap x=((x.natAbs:Nat):Int) by rw [xN]; omega,show IntKind.u64.wrap y=((y.natAbs:Nat):Int) by rw [xN]; omega]
     refine yB (mP (x:=x.natAbs) (y:=y.natAbs) (by omega) (by omega)) (fun u hu => ?_)
     obtain rfl:=hu
     refine go ?_
     cases hp:yA Cm.eql ((x.natAbs*y.natAbs / 18446744073709551616:Nat):Int) 0
     ·refine go ?_
      refine yB (xM hx) (fun u hu => ?_)
      obtain ⟨c1,l1,n1,rfl,w1,o1,e1⟩:=hu
      refine go ?_
      refine yB (xM hy) (fun u hu => ?_)
      obtain ⟨c2,l2,n2,rfl,w2,o2,e2⟩:=hu
      refine go ?_
      have hl1:l1.length≤n:=xY o1 (by rw [e1] at sx; rwa [xS] at sx)
      have hl2:l2.length≤n:=xY o2 (by rw [e2] at sy; rwa [xS] at sy)
      have e:arith .add .i64 (l1.length:Int) l2.length=((l1.length+l2.length:Nat):Int):=by
       rw [xB,yH (by omega) (by omega)]
       omega
      rw [e]
      refine wX (by rfl) (by rfl) ⟨by omega,by omega,by omega,by omega⟩ ?_
      rw [Int.toNat_natCast,zeros]
      refine go ?_
      refine yR (fun n vs H => ∃ (i:Nat) (out:List Nat),vs=[.c (.ptr 2 0),.c c1,.c (.bool n1),.c c2,.c (.bool n2),.c (.sl 3 0 (l1.length+l2.length) (some (l1.length+l2.length)) 1),i64 (l1.length:Int),i64 (i:Int)]∧H=[.live ⟨[.int .i64 x,.nilSl,.bool false],xG,.rw⟩,.live ⟨[.int .i64 y,.nilSl,.bool false],xG,.rw⟩,.live ⟨[.int .i64 0,.nilSl,.bool false],xG,.rw⟩,.live ⟨out.map W,yT,.rw⟩]∧n=l1.length - i∧i≤l1.length∧out.length=l1.length+l2.length∧OkW out∧val out=val (l1.take i)*val l2∧∀ k,i+l2.length≤k→at0 out k=0) (by rfl) ⟨0,_,rfl,rfl,rfl,by omega,by simp,fun x hx => by simp at hx; omega,by simp [val,sC],fun k _ => uV _ k⟩ ?_
      rintro m vs H ⟨i,out,rfl,rfl,rfl,k1,k2,k3,k4,k5⟩
      refine go ?_
      refine xR (fun h => ?_) (fun h => ?_)
      ·simp [yA] at h
       refine go ?_
       refine yR (fun n vs H => ∃ (j carry:Nat) (p:List Nat),vs=[.c (.ptr 2 0),.c c1,.c (.bool n1),.c c2,.c (.bool n2),.c (.sl 3 0 (l1.length+l2.length) (some (l1.length+l2.length)) 1),i64 (i:Int),.c (.int .u64 (carry:Int)),i64 (l1.length:Int),i64 (i:Int),i64 (l2.length:Int),i64 (j:Int)]∧H=[.live ⟨[.int .i64 x,.nilSl,.bool false],xG,.rw⟩,.live ⟨[.int .i64 y,.nilSl,.bool false],xG,.rw⟩,.live ⟨[.int .i64 0,.nilSl,.bool false],xG,.rw⟩,.live ⟨p.map W,yT,.rw⟩]∧n=l2.length - j∧j≤l2.length∧p.length=l1.length+l2.length∧OkW p∧carry<4294967296∧val p+4294967296 ^ (i+j)*carry=val out+4294967296 ^ i*(at0 l1 i*val (l2.take j))∧∀ k,i+j≤k→at0 p k=at0 out k) (by rfl) ⟨0,0,out,rfl,rfl,rfl,by omega,k2,k3,by omega,by simp [val],fun k _ => rfl⟩ ?_
       rintro m vs H ⟨j,carry,p,rfl,rfl,rfl,j1,j2,j3,j4,j5,j6⟩
       refine go ?_
       refine xR (fun h' => ?_) (fun h' => ?_)
       ·simp [yA] at h'
        refine go ?_
        have e3:arith .add .i64 ((i:Nat):Int) ((j:Nat):Int)=((i+j:Nat):Int):=by
         rw [xB,yH (by omega) (by omega)]
         omega
        have ga:=o1.1.get i
        have gb:=o2.1.get j
        have gw:=j3.get (i+j)
        obtain ⟨r1,r2,r3⟩:=qO (k:=i+j) (out:=p) (by omega) j3 ga gb j4
        have r0:at0 l1 i*at0 l2 j<18446744073709551616:=by omega
        rw [e3]
        refine yJ (by rfl) (by rfl) (by omega) (by omega) ?_
        refine go ?_
        refine wS (k:=i+j) (by rfl) (by omega) (by omega) ?_
        refine go ?_
        rw [show IntKind.u64.wrap ((at0 l1 ((i:Nat):Int).toNat:Nat):Int)=((at0 l1 i:Nat):Int) by rw [Int.toNat_natCast,xQ _ (by omega)],show IntKind.u64.wrap ((at0 l2 ((j:Nat):Int).toNat:Nat):Int)=((at0 l2 j:Nat):Int) by rw [Int.toNat_natCast,xQ _ (by omega)],mulN _ _ r0,xQ _ (by omega:at0 p (i+j)<18446744073709551616),show arith .add .u64 (arith .add .u64 ((at0 p (i+j):Nat):Int) ((at0 l1 i*at0 l2 j:Nat):Int)) ((carry:Nat):Int)=((at0 l1 i*at0 l2 j+at0 p (i+j)+carry:Nat):Int) by rw [addN _ _ (by omega),addN _ _ (by omega)]; congr 1; omega]
        rw [e3]
        refine yJ (by rfl) (by rfl) (by omega) (by omega) ?_
        rw [show IntKind.u32.wrap ((at0 l1 i*at0 l2 j+at0 p (i+j)+carry:Nat):Int)=(((at0 l1 i*at0 l2 j+at0 p (i+j)+carry) % 4294967296:Nat):Int) by rw [xH]; omega]
        refine go ?_
        refine wD (k:=i+j) (by rfl) (by rfl) (by omega) (by omega) ?_
        refine go ?_
        rw [shrN,show arith .add .i64 ((j:Nat):Int) 1=((j+1:Nat):Int) by rw [xB,yH (by omega) (by omega)]; omega]
        refine l_n (by rfl) (by omega) ⟨j+1,_,_,rfl,rfl,rfl,by omega,by simp [j2],j3.set (by omega),r2,?_,fun k hk => ?_⟩
        ·rw [yE,Nat.mul_add,Nat.mul_add,←Nat.add_assoc,←Nat.add_assoc,←j5]
         have e4:4294967296 ^ i*(at0 l1 i*(4294967296 ^ j*at0 l2 j))=4294967296 ^ (i+j)*(at0 l1 i*at0 l2 j):=by
          rw [Nat.pow_add,Nat.mul_left_comm (at0 l1 i),Nat.mul_assoc]
         rw [e4]
         exact r3
        ·rw [wA (by omega)]
         exact j6 k (by omega)
       ·simp [yA] at h'
        have ej:j=l2.length:=by omega
        subst ej
        refine go ?_
        have e3:arith .add .i64 ((i:Nat):Int) l2.length=((i+l2.length:Nat):Int):=by
         rw [xB,yH (by omega) (by omega)]
         omega
        rw [e3]
        refine yJ (by rfl) (by rfl) (by omega) (by omega) ?_
        rw [show IntKind.u32.wrap ((carry:Nat):Int)=((carry:Nat):Int) by rw [xH]; omega]
        refine go ?_
        refine wD (k:=i+l2.length) (by rfl) (by rfl) (by omega) (by omega) ?_
        refine go ?_
        rw [show arith .add .i64 ((i:Nat):Int) 1=((i+1:Nat):Int) by rw [xB,yH (by omega) (by omega)]; omega]
        refine l_n (by rfl) (by omega) ⟨i+1,_,rfl,rfl,rfl,by omega,by simp [j2],j3.set j4,?_,fun k hk => ?_⟩
        ·have v1:=sW p (i+l2.length) carry (by omega)
         rw [j6 _ (by omega),k5 _ (by omega)] at v1
         rw [xI (Nat.le_refl _)] at j5
         rw [yE,Nat.add_mul,←k4,Nat.mul_assoc]
         omega
        ·rw [wA (by omega),j6 _ (by omega)]
         exact k5 _ (by omega)
      ·simp [yA] at h
       have ei:i=l1.length:=by omega
       subst ei
       rw [xI (Nat.le_refl _)] at k4
       refine go ?_
       refine yV [3] (.cons (.c (wT out (by rfl) rfl (by simp) k2.symm (by rw [←k2]; exact List.take_of_length_le (by simp)))) (.cons (.c (.hf trivial)) .nil)) (wC _ (.imm out) k3 (by omega)) (fun u hu => ?_)
       obtain ⟨cs3,rfl,z3⟩:=hu
       obtain ⟨a0,a1,a2,rfl⟩:=z3.three
       refine go ?_
       rw [e1,e2,jJ,←k4]
       exact ZK.fz z3
     ·simp only [yA,yG] at hp
      refine go ?_
      cases hl:yA Cm.lss ((x.natAbs*y.natAbs % 18446744073709551616:Nat):Int) 9223372036854775808
      ·refine go ?_
       refine yB (xM hx) (fun u hu => ?_)
       obtain ⟨c1,l1,n1,rfl,w1,o1,e1⟩:=hu
       refine go ?_
       refine yB (xM hy) (fun u hu => ?_)
       obtain ⟨c2,l2,n2,rfl,w2,o2,e2⟩:=hu
       refine go ?_
       have hl1:l1.length≤n:=xY o1 (by rw [e1] at sx; rwa [xS] at sx)
       have hl2:l2.length≤n:=xY o2 (by rw [e2] at sy; rwa [xS] at sy)
       have e:arith .add .i64 (l1.length:Int) l2.length=((l1.length+l2.length:Nat):Int):=by
        rw [xB,yH (by omega) (by omega)]
        omega
       rw [e]
       refine wX (by rfl) (by rfl) ⟨by omega,by omega,by omega,by omega⟩ ?_
       rw [Int.toNat_natCast,zeros]
       refine go ?_
       refine yR (fun n vs H => ∃ (i:Nat) (out:List Nat),vs=[.c (.ptr 2 0),.c c1,.c (.bool n1),.c c2,.c (.bool n2),.c (.sl 3 0 (l1.length+l2.length) (some (l1.length+l2.length)) 1),i64 (l1.length:Int),i64 (i:Int)]∧H=[.live ⟨[.int .i64 x,.nilSl,.bool false],xG,.rw⟩,.live ⟨[.int .i64 y,.nilSl,.bool false],xG,.rw⟩,.live ⟨[.int .i64 0,.nilSl,.bool false],xG,.rw⟩,.live ⟨out.map W,yT,.rw⟩]∧n=l1.length - i∧i≤l1.length∧out.length=l1.length+l2.length∧OkW out∧val out=val (l1.take i)*val l2∧∀ k,i+l2.length≤k→at0 out k=0) (by rfl) ⟨0,_,rfl,rfl,rfl,by omega,by simp,fun x hx => by simp at hx; omega,by simp [val,sC],fun k _ => uV _ k⟩ ?_
       rintro m vs H ⟨i,out,rfl,rfl,rfl,k1,k2,k3,k4,k5⟩
       refine go ?_
       refine xR (fun h => ?_) (fun h => ?_)
       ·simp [yA] at h
        refine go ?_
        refine yR (fun n vs H => ∃ (j carry:Nat) (p:List Nat),vs=[.c (.ptr 2 0),.c c1,.c (.bool n1),.c c2,.c (.bool n2),.c (.sl 3 0 (l1.length+l2.length) (some (l1.length+l2.length)) 1),i64 (i:Int),.c (.int .u64 (carry:Int)),i64 (l1.length:Int),i64 (i:Int),i64 (l2.length:Int),i64 (j:Int)]∧H=[.live ⟨[.int .i64 x,.nilSl,.bool false],xG,.rw⟩,.live ⟨[.int .i64 y,.nilSl,.bool false],xG,.rw⟩,.live ⟨[.int .i64 0,.nilSl,.bool false],xG,.rw⟩,.live ⟨p.map W,yT,.rw⟩]∧n=l2.length - j∧j≤l2.length∧p.length=l1.length+l2.length∧OkW p∧carry<4294967296∧val p+4294967296 ^ (i+j)*carry=val out+4294967296 ^ i*(at0 l1 i*val (l2.take j))∧∀ k,i+j≤k→at0 p k=at0 out k) (by rfl) ⟨0,0,out,rfl,rfl,rfl,by omega,k2,k3,by omega,by simp [val],fun k _ => rfl⟩ ?_
        rintro m vs H ⟨j,carry,p,rfl,rfl,rfl,j1,j2,j3,j4,j5,j6⟩
        refine go ?_
        refine xR (fun h' => ?_) (fun h' => ?_)
        ·simp [yA] at h'
         refine go ?_
         have e3:arith .add .i64 ((i:Nat):Int) ((j:Nat):Int)=((i+j:Nat):Int):=by
          rw [xB,yH (by omega) (by omega)]
          omega
         have ga:=o1.1.get i
         have gb:=o2.1.get j
         have gw:=j3.get (i+j)
         obtain ⟨r1,r2,r3⟩:=qO (k:=i+j) (out:=p) (by omega) j3 ga gb j4
         have r0:at0 l1 i*at0 l2 j<18446744073709551616:=by omega
         rw [e3]
         refine yJ (by rfl) (by rfl) (by omega) (by omega) ?_
         refine go ?_
         refine wS (k:=i+j) (by rfl) (by omega) (by omega) ?_
         refine go ?_
         rw [show IntKind.u64.wrap ((at0 l1 ((i:Nat):Int).toNat:Nat):Int)=((at0 l1 i:Nat):Int) by rw [Int.toNat_natCast,xQ _ (by omega)],show IntKind.u64.wrap ((at0 l2 ((j:Nat):Int).toNat:Nat):Int)=((at0 l2 j:Nat):Int) by rw [Int.toNat_natCast,xQ _ (by omega)],mulN _ _ r0,xQ _ (by omega:at0 p (i+j)<18446744073709551616),show arith .add .u64 (arith .add .u64 ((at0 p (i+j):Nat):Int) ((at0 l1 i*at0 l2 j:Nat):Int)) ((carry:Nat):Int)=((at0 l1 i*at0 l2 j+at0 p (i+j)+carry:Nat):Int) by rw [addN _ _ (by omega),addN _ _ (by omega)]; congr 1; omega]
         rw [e3]
         refine yJ (by rfl) (by rfl) (by omega) (by omega) ?_
         rw [show IntKind.u32.wrap ((at0 l1 i*at0 l2 j+at0 p (i+j)+carry:Nat):Int)=(((at0 l1 i*at0 l2 j+at0 p (i+j)+carry) % 4294967296:Nat):Int) by rw [xH]; omega]
         refine go ?_
         refine wD (k:=i+j) (by rfl) (by rfl) (by omega) (by omega) ?_
         refine go ?_
         rw [shrN,show arith .add .i64 ((j:Nat):Int) 1=((j+1:Nat):Int) by rw [xB,yH (by omega) (by omega)]; omega]
         refine l_n (by rfl) (by omega) ⟨j+1,_,_,rfl,rfl,rfl,by omega,by simp [j2],j3.set (by omega),r2,?_,fun k hk => ?_⟩
         ·rw [yE,Nat.mul_add,Nat.mul_add,←Nat.add_assoc,←Nat.add_assoc,←j5]
          have e4:4294967296 ^ i*(at0 l1 i*(4294967296 ^ j*at0 l2 j))=4294967296 ^ (i+j)*(at0 l1 i*at0 l2 j):=by
           rw [Nat.pow_add,Nat.mul_left_comm (at0 l1 i),Nat.mul_assoc]
          rw [e4]
          exact r3
         ·rw [wA (by omega)]
          exact j6 k (by omega)
        ·simp [yA] at h'
         have ej:j=l2.length:=by omega
         subst ej
         refine go ?_
         have e3:arith .add .i64 ((i:Nat):Int) l2.length=((i+l2.length:Nat):Int):=by
          rw [xB,yH (by omega) (by omega)]
          omega
         rw [e3]
         refine yJ (by rfl) (by rfl) (by omega) (by omega) ?_
         rw [show IntKind.u32.wrap ((carry:Nat):Int)=((carry:Nat):Int) by rw [xH]; omega]
         refine go ?_
         refine wD (k:=i+l2.length) (by rfl) (by rfl) (by omega) (by omega) ?_
         refine go ?_
         rw [show arith .add .i64 ((i:Nat):Int) 1=((i+1:Nat):Int) by rw [xB,yH (by omega) (by omega)]; omega]
         refine l_n (by rfl) (by omega) ⟨i+1,_,rfl,rfl,rfl,by omega,by simp [j2],j3.set j4,?_,fun k hk => ?_⟩
         ·have v1:=sW p (i+l2.length) carry (by omega)
          rw [j6 _ (by omega),k5 _ (by omega)] at v1
          rw [xI (Nat.le_refl _)] at j5
          rw [yE,Nat.add_mul,←k4,Nat.mul_assoc]
          omega
         ·rw [wA (by omega),j6 _ (by omega)]
          exact k5 _ (by omega)
       ·simp [yA] at h
        have ei:i=l1.length:=by omega
        subst ei
        rw [xI (Nat.le_refl _)] at k4
        refine go ?_
        refine yV [3] (.cons (.c (wT out (by rfl) rfl (by simp) k2.symm (by rw [←k2]; exact List.take_of_length_le (by simp)))) (.cons (.c (.hf trivial)) .nil)) (wC _ (.imm out) k3 (by omega)) (fun u hu => ?_)
        obtain ⟨cs3,rfl,z3⟩:=hu
        obtain ⟨a0,a1,a2,rfl⟩:=z3.three
        refine go ?_
        rw [e1,e2,jJ,←k4]
        exact ZK.fz z3
      ·simp only [yA,yG] at hl
       refine go ?_
       rw [hq0,hr0]
       refine go ?_
       have hm:x.natAbs*y.natAbs<18446744073709551616:=by omega
       rw [Nat.mod_eq_of_lt hm] at hl ⊢
       have h0:0≤x*y:=Int.mul_nonneg hq hr
       have ez:x*y=((x.natAbs*y.natAbs:Nat):Int):=by rw [←Int.natAbs_mul]; omega
       rw [yH (by omega) (by omega),ez]
       exact ZK.fz (.small _ (by omega) (by omega))
    ·have hr0:=hr
     simp [yA] at hr
     refine go ?_
     rw [show IntKind.u64.wrap x=((x.natAbs:Nat):Int) by rw [xN]; omega,show IntKind.u64.wrap (0 - IntKind.u64.wrap y)=((y.natAbs:Nat):Int) by rw [xN,xN]; omega]
     refine yB (mP (x:=x.natAbs) (y:=y.natAbs) (by omega) (by omega)) (fun u hu => ?_)
     obtain rfl:=hu
     refine go ?_
     cases hp:yA Cm.eql ((x.natAbs*y.natAbs / 18446744073709551616:Nat):Int) 0
     ·refine go ?_
      refine yB (xM hx) (fun u hu => ?_)
      obtain ⟨c1,l1,n1,rfl,w1,o1,e1⟩:=hu
      refine go ?_
      refine yB (xM hy) (fun u hu => ?_)
      obtain ⟨c2,l2,n2,rfl,w2,o2,e2⟩:=hu
      refine go ?_
      have hl1:l1.length≤n:=xY o1 (by rw [e1] at sx; rwa [xS] at sx)
      have hl2:l2.length≤n:=xY o2 (by rw [e2] at sy; rwa [xS] at sy)
      have e:arith .add .i64 (l1.length:Int) l2.length=((l1.length+l2.length:Nat):Int):=by
       rw [xB,yH (by omega) (by omega)]
       omega
      rw [e]
      refine wX (by rfl) (by rfl) ⟨by omega,by omega,by omega,by omega⟩ ?_
      rw [Int.toNat_natCast,zeros]
      refine go ?_
      refine yR (fun n vs H => ∃ (i:Nat) (out:List Nat),vs=[.c (.ptr 2 0),.c c1,.c (.bool n1),.c c2,.c (.bool n2),.c (.sl 3 0 (l1.length+l2.length) (some (l1.length+l2.length)) 1),i64 (l1.length:Int),i64 (i:Int)]∧H=[.live ⟨[.int .i64 x,.nilSl,.bool false],xG,.rw⟩,.live ⟨[.int .i64 y,.nilSl,.bool false],xG,.rw⟩,.live ⟨[.int .i64 0,.nilSl,.bool false],xG,.rw⟩,.live ⟨out.map W,yT,.rw⟩]∧n=l1.length - i∧i≤l1.length∧out.length=l1.length+l2.length∧OkW out∧val out=val (l1.take i)*val l2∧∀ k,i+l2.length≤k→at0 out k=0) (by rfl) ⟨0,_,rfl,rfl,rfl,by omega,by simp,fun x hx => by simp at hx; omega,by simp [val,sC],fun k _ => uV _ k⟩ ?_
      rintro m vs H ⟨i,out,rfl,rfl,rfl,k1,k2,k3,k4,k5⟩
      refine go ?_
      refine xR (fun h => ?_) (fun h => ?_)
      ·simp [yA] at h
       refine go ?_
       refine yR (fun n vs H => ∃ (j carry:Nat) (p:List Nat),vs=[.c (.ptr 2 0),.c c1,.c (.bool n1),.c c2,.c (.bool n2),.c (.sl 3 0 (l1.length+l2.length) (some (l1.length+l2.length)) 1),i64 (i:Int),.c (.int .u64 (carry:Int)),i64 (l1.length:Int),i64 (i:Int),i64 (l2.length:Int),i64 (j:Int)]∧H=[.live ⟨[.int .i64 x,.nilSl,.bool false],xG,.rw⟩,.live ⟨[.int .i64 y,.nilSl,.bool false],xG,.rw⟩,.live ⟨[.int .i64 0,.nilSl,.bool false],xG,.rw⟩,.live ⟨p.map W,yT,.rw⟩]∧n=l2.length - j∧j≤l2.length∧p.length=l1.length+l2.length∧OkW p∧carry<4294967296∧val p+4294967296 ^ (i+j)*carry=val out+4294967296 ^ i*(at0 l1 i*val (l2.take j))∧∀ k,i+j≤k→at0 p k=at0 out k) (by rfl) ⟨0,0,out,rfl,rfl,rfl,by omega,k2,k3,by omega,by simp [val],fun k _ => rfl⟩ ?_
       rintro m vs H ⟨j,carry,p,rfl,rfl,rfl,j1,j2,j3,j4,j5,j6⟩
       refine go ?_
       refine xR (fun h' => ?_) (fun h' => ?_)
       ·simp [yA] at h'
        refine go ?_
        have e3:arith .add .i64 ((i:Nat):Int) ((j:Nat):Int)=((i+j:Nat):Int):=by
         rw [xB,yH (by omega) (by omega)]
         omega
        have ga:=o1.1.get i
        have gb:=o2.1.get j
        have gw:=j3.get (i+j)
        obtain ⟨r1,r2,r3⟩:=qO (k:=i+j) (out:=p) (by omega) j3 ga gb j4
        have r0:at0 l1 i*at0 l2 j<18446744073709551616:=by omega
        rw [e3]
        refine yJ (by rfl) (by rfl) (by omega) (by omega) ?_
        refine go ?_
        refine wS (k:=i+j) (by rfl) (by omega) (by omega) ?_
        refine go ?_
        rw [show IntKind.u64.wrap ((at0 l1 ((i:Nat):Int).toNat:Nat):Int)=((at0 l1 i:Nat):Int) by rw [Int.toNat_natCast,xQ _ (by omega)],show IntKind.u64.wrap ((at0 l2 ((j:Nat):Int).toNat:Nat):Int)=((at0 l2 j:Nat):Int) by rw [Int.toNat_natCast,xQ _ (by omega)],mulN _ _ r0,xQ _ (by omega:at0 p (i+j)<18446744073709551616),show arith .add .u64 (arith .add .u64 ((at0 p (i+j):Nat):Int) ((at0 l1 i*at0 l2 j:Nat):Int)) ((carry:Nat):Int)=((at0 l1 i*at0 l2 j+at0 p (i+j)+carry:Nat):Int) by rw [addN _ _ (by omega),addN _ _ (by omega)]; congr 1; omega]
        rw [e3]
        refine yJ (by rfl) (by rfl) (by omega) (by omega) ?_
        rw [show IntKind.u32.wrap ((at0 l1 i*at0 l2 j+at0 p (i+j)+carry:Nat):Int)=(((at0 l1 i*at0 l2 j+at0 p (i+j)+carry) % 4294967296:Nat):Int) by rw [xH]; omega]
        refine go ?_
        refine wD (k:=i+j) (by rfl) (by rfl) (by omega) (by omega) ?_
        refine go ?_
        rw [shrN,show arith .add .i64 ((j:Nat):Int) 1=((j+1:Nat):Int) by rw [xB,yH (by omega) (by omega)]; omega]
        refine l_n (by rfl) (by omega) ⟨j+1,_,_,rfl,rfl,rfl,by omega,by simp [j2],j3.set (by omega),r2,?_,fun k hk => ?_⟩
        ·rw [yE,Nat.mul_add,Nat.mul_add,←Nat.add_assoc,←Nat.add_assoc,←j5]
         have e4:4294967296 ^ i*(at0 l1 i*(4294967296 ^ j*at0 l2 j))=4294967296 ^ (i+j)*(at0 l1 i*at0 l2 j):=by
          rw [Nat.pow_add,Nat.mul_left_comm (at0 l1 i),Nat.mul_assoc]
         rw [e4]
         exact r3
        ·rw [wA (by omega)]
         exact j6 k (by omega)
       ·simp [yA] at h'
        have ej:j=l2.length:=by omega
        subst ej
        refine go ?_
        have e3:arith .add .i64 ((i:Nat):Int) l2.length=((i+l2.length:Nat):Int):=by
         rw [xB,yH (by omega) (by omega)]
         omega
        rw [e3]
        refine yJ (by rfl) (by rfl) (by omega) (by omega) ?_
        rw [show IntKind.u32.wrap ((carry:Nat):Int)=((carry:Nat):Int) by rw [xH]; omega]
        refine go ?_
        refine wD (k:=i+l2.length) (by rfl) (by rfl) (by omega) (by omega) ?_
        refine go ?_
        rw [show arith .add .i64 ((i:Nat):Int) 1=((i+1:Nat):Int) by rw [xB,yH (by omega) (by omega)]; omega]
        refine l_n (by rfl) (by omega) ⟨i+1,_,rfl,rfl,rfl,by omega,by simp [j2],j3.set j4,?_,fun k hk => ?_⟩
        ·have v1:=sW p (i+l2.length) carry (by omega)
         rw [j6 _ (by omega),k5 _ (by omega)] at v1
         rw [xI (Nat.le_refl _)] at j5
         rw [yE,Nat.add_mul,←k4,Nat.mul_assoc]
         omega
        ·rw [wA (by omega),j6 _ (by omega)]
         exact k5 _ (by omega)
      ·simp [yA] at h
       have ei:i=l1.length:=by omega
       subst ei
       rw [xI (Nat.le_refl _)] at k4
       refine go ?_
       refine yV [3] (.cons (.c (wT out (by rfl) rfl (by simp) k2.symm (by rw [←k2]; exact List.take_of_length_le (by simp)))) (.cons (.c (.hf trivial)) .nil)) (wC _ (.imm out) k3 (by omega)) (fun u hu => ?_)
       obtain ⟨cs3,rfl,z3⟩:=hu
       obtain ⟨a0,a1,a2,rfl⟩:=z3.three
       refine go ?_
       rw [e1,e2,jJ,←k4]
       exact ZK.fz z3
     ·simp only [yA,yG] at hp
      refine go ?_
      cases hl:yA Cm.lss ((x.natAbs*y.natAbs % 18446744073709551616:Nat):Int) 9223372036854775808
      ·refine go ?_
       refine yB (xM hx) (fun u hu => ?_)
       obtain ⟨c1,l1,n1,rfl,w1,o1,e1⟩:=hu
       refine go ?_
       refine yB (xM hy) (fun u hu => ?_)
       obtain ⟨c2,l2,n2,rfl,w2,o2,e2⟩:=hu
       refine go ?_
       have hl1:l1.length≤n:=xY o1 (by rw [e1] at sx; rwa [xS] at sx)
       have hl2:l2.length≤n:=xY o2 (by rw [e2] at sy; rwa [xS] at sy)
       have e:arith .add .i64 (l1.length:Int) l2.length=((l1.length+l2.length:Nat):Int):=by
        rw [xB,yH (by omega) (by omega)]
        omega
       rw [e]
       refine wX (by rfl) (by rfl) ⟨by omega,by omega,by omega,by omega⟩ ?_
       rw [Int.toNat_natCast,zeros]
       refine go ?_
       refine yR (fun n vs H => ∃ (i:Nat) (out:List Nat),vs=[.c (.ptr 2 0),.c c1,.c (.bool n1),.c c2,.c (.bool n2),.c (.sl 3 0 (l1.length+l2.length) (some (l1.length+l2.length)) 1),i64 (l1.length:Int),i64 (i:Int)]∧H=[.live ⟨[.int .i64 x,.nilSl,.bool false],xG,.rw⟩,.live ⟨[.int .i64 y,.nilSl,.bool false],xG,.rw⟩,.live ⟨[.int .i64 0,.nilSl,.bool false],xG,.rw⟩,.live ⟨out.map W,yT,.rw⟩]∧n=l1.length - i∧i≤l1.length∧out.length=l1.length+l2.length∧OkW out∧val out=val (l1.take i)*val l2∧∀ k,i+l2.length≤k→at0 out k=0) (by rfl) ⟨0,_,rfl,rfl,rfl,by omega,by simp,fun x hx => by simp at hx; omega,by simp [val,sC],fun k _ => uV _ k⟩ ?_
       rintro m vs H ⟨i,out,rfl,rfl,rfl,k1,k2,k3,k4,k5⟩
       refine go ?_
       refine xR (fun h => ?_) (fun h => ?_)
       ·simp [yA] at h
        refine go ?_
        refine yR (fun n vs H => ∃ (j carry:Nat) (p:List Nat),vs=[.c (.ptr 2 0),.c c1,.c (.bool n1),.c c2,.c (.bool n2),.c (.sl 3 0 (l1.length+l2.length) (some (l1.length+l2.length)) 1),i64 (i:Int),.c (.int .u64 (carry:Int)),i64 (l1.length:Int),i64 (i:Int),i64 (l2.length:Int),i64 (j:Int)]∧H=[.live ⟨[.int .i64 x,.nilSl,.bool false],xG,.rw⟩,.live ⟨[.int .i64 y,.nilSl,.bool false],xG,.rw⟩,.live ⟨[.int .i64 0,.nilSl,.bool false],xG,.rw⟩,.live ⟨p.map W,yT,.rw⟩]∧n=l2.length - j∧j≤l2.length∧p.length=l1.length+l2.length∧OkW p∧carry<4294967296∧val p+4294967296 ^ (i+j)*carry=val out+4294967296 ^ i*(at0 l1 i*val (l2.take j))∧∀ k,i+j≤k→at0 p k=at0 out k) (by rfl) ⟨0,0,out,rfl,rfl,rfl,by omega,k2,k3,by omega,by simp [val],fun k _ => rfl⟩ ?_
        rintro m vs H ⟨j,carry,p,rfl,rfl,rfl,j1,j2,j3,j4,j5,j6⟩
        refine go ?_
        refine xR (fun h' => ?_) (fun h' => ?_)
        ·simp [yA] at h'
         refine go ?_
         have e3:arith .add .i64 ((i:Nat):Int) ((j:Nat):Int)=((i+j:Nat):Int):=by
          rw [xB,yH (by omega) (by omega)]
          omega
         have ga:=o1.1.get i
         have gb:=o2.1.get j
         have gw:=j3.get (i+j)
         obtain ⟨r1,r2,r3⟩:=qO (k:=i+j) (out:=p) (by omega) j3 ga gb j4
         have r0:at0 l1 i*at0 l2 j<18446744073709551616:=by omega
         rw [e3]
         refine yJ (by rfl) (by rfl) (by omega) (by omega) ?_
         refine go ?_
         refine wS (k:=i+j) (by rfl) (by omega) (by omega) ?_
         refine go ?_
         rw [show IntKind.u64.wrap ((at0 l1 ((i:Nat):Int).toNat:Nat):Int)=((at0 l1 i:Nat):Int) by rw [Int.toNat_natCast,xQ _ (by omega)],show IntKind.u64.wrap ((at0 l2 ((j:Nat):Int).toNat:Nat):Int)=((at0 l2 j:Nat):Int) by rw [Int.toNat_natCast,xQ _ (by omega)],mulN _ _ r0,xQ _ (by omega:at0 p (i+j)<18446744073709551616),show arith .add .u64 (arith .add .u64 ((at0 p (i+j):Nat):Int) ((at0 l1 i*at0 l2 j:Nat):Int)) ((carry:Nat):Int)=((at0 l1 i*at0 l2 j+at0 p (i+j)+carry:Nat):Int) by rw [addN _ _ (by omega),addN _ _ (by omega)]; congr 1; omega]
         rw [e3]
         refine yJ (by rfl) (by rfl) (by omega) (by omega) ?_
         rw [show IntKind.u32.wrap ((at0 l1 i*at0 l2 j+at0 p (i+j)+carry:Nat):Int)=(((at0 l1 i*at0 l2 j+at0 p (i+j)+carry) % 4294967296:Nat):Int) by rw [xH]; omega]
         refine go ?_
         refine wD (k:=i+j) (by rfl) (by rfl) (by omega) (by omega) ?_
         refine go ?_
         rw [shrN,show arith .add .i64 ((j:Nat):Int) 1=((j+1:Nat):Int) by rw [xB,yH (by omega) (by omega)]; omega]
         refine l_n (by rfl) (by omega) ⟨j+1,_,_,rfl,rfl,rfl,by omega,by simp [j2],j3.set (by omega),r2,?_,fun k hk => ?_⟩
         ·rw [yE,Nat.mul_add,Nat.mul_add,←Nat.add_assoc,←Nat.add_assoc,←j5]
          have e4:4294967296 ^ i*(at0 l1 i*(4294967296 ^ j*at0 l2 j))=4294967296 ^ (i+j)*(at0 l1 i*at0 l2 j):=by
           rw [Nat.pow_add,Nat.mul_left_comm (at0 l1 i),Nat.mul_assoc]
          rw [e4]
          exact r3
         ·rw [wA (by omega)]
          exact j6 k (by omega)
        ·simp [yA] at h'
         have ej:j=l2.length:=by omega
         subst ej
         refine go ?_
         have e3:arith .add .i64 ((i:Nat):Int) l2.length=((i+l2.length:Nat):Int):=by
          rw [xB,yH (by omega) (by omega)]
          omega
         rw [e3]
         refine yJ (by rfl) (by rfl) (by omega) (by omega) ?_
         rw [show IntKind.u32.wrap ((carry:Nat):Int)=((carry:Nat):Int) by rw [xH]; omega]
         refine go ?_
         refine wD (k:=i+l2.length) (by rfl) (by rfl) (by omega) (by omega) ?_
         refine go ?_
         rw [show arith .add .i64 ((i:Nat):Int) 1=((i+1:Nat):Int) by rw [xB,yH (by omega) (by omega)]; omega]
         refine l_n (by rfl) (by omega) ⟨i+1,_,rfl,rfl,rfl,by omega,by simp [j2],j3.set j4,?_,fun k hk => ?_⟩
         ·have v1:=sW p (i+l2.length) carry (by omega)
          rw [j6 _ (by omega),k5 _ (by omega)] at v1
          rw [xI (Nat.le_refl _)] at j5
          rw [yE,Nat.add_mul,←k4,Nat.mul_assoc]
          omega
         ·rw [wA (by omega),j6 _ (by omega)]
          exact k5 _ (by omega)
       ·simp [yA] at h
        have ei:i=l1.length:=by omega
        subst ei
        rw [xI (Nat.le_refl _)] at k4
        refine go ?_
        refine yV [3] (.cons (.c (wT out (by rfl) rfl (by simp) k2.symm (by rw [←k2]; exact List.take_of_length_le (by simp)))) (.cons (.c (.hf trivial)) .nil)) (wC _ (.imm out) k3 (by omega)) (fun u hu => ?_)
        obtain ⟨cs3,rfl,z3⟩:=hu
        obtain ⟨a0,a1,a2,rfl⟩:=z3.three
        refine go ?_
        rw [e1,e2,jJ,←k4]
        exact ZK.fz z3
      ·simp only [yA,yG] at hl
       refine go ?_
       rw [hq0,hr0]
       refine go ?_
       have hm:x.natAbs*y.natAbs<18446744073709551616:=by omega
       rw [Nat.mod_eq_of_lt hm] at hl ⊢
       have h0:0≤x*(-y):=Int.mul_nonneg (by omega) (by omega)
       rw [Int.mul_neg] at h0
       have ez:x*y = -((x.natAbs*y.natAbs:Nat):Int):=by rw [←Int.natAbs_mul]; omega
       rw [yH (n:=((x.natAbs*y.natAbs:Nat):Int)) (by omega) (by omega),yH (by omega) (by omega),Int.zero_sub,ez]
       exact ZK.fz (.small _ (by omega) (by omega))
   ·have hq0:=hq
    simp [yA] at hq
    refine go ?_
    cases hr:yA Cm.lss y 0
    ·have hr0:=hr
     simp [yA] at hr
     refine go ?_
     rw [show IntKind.u64.wrap (0 - IntKind.u64.wrap x)=((x.natAbs:Nat):Int) by rw [xN,xN]; omega,show IntKind.u64.wrap y=((y.natAbs:Nat):Int) by rw [xN]; omega]
     refine yB (mP (x:=x.natAbs) (y:=y.natAbs) (by omega) (by omega)) (fun u hu => ?_)
     obtain rfl:=hu
     refine go ?_
     cases hp:yA Cm.eql ((x.natAbs*y.natAbs / 18446744073709551616:Nat):Int) 0
     ·refine go ?_
      refine yB (xM hx) (fun u hu => ?_)
      obtain ⟨c1,l1,n1,rfl,w1,o1,e1⟩:=hu
      refine go ?_
      refine yB (xM hy) (fun u hu => ?_)
      obtain ⟨c2,l2,n2,rfl,w2,o2,e2⟩:=hu
      refine go ?_
      have hl1:l1.length≤n:=xY o1 (by rw [e1] at sx; rwa [xS] at sx)
      have hl2:l2.length≤n:=xY o2 (by rw [e2] at sy; rwa [xS] at sy)
      have e:arith .add .i64 (l1.length:Int) l2.length=((l1.length+l2.length:Nat):Int):=by
       rw [xB,yH (by omega) (by omega)]
       omega
      rw [e]
      refine wX (by rfl) (by rfl) ⟨by omega,by omega,by omega,by omega⟩ ?_
      rw [Int.toNat_natCast,zeros]
      refine go ?_
      refine yR (fun n vs H => ∃ (i:Nat) (out:List Nat),vs=[.c (.ptr 2 0),.c c1,.c (.bool n1),.c c2,.c (.bool n2),.c (.sl 3 0 (l1.length+l2.length) (some (l1.length+l2.length)) 1),i64 (l1.length:Int),i64 (i:Int)]∧H=[.live ⟨[.int .i64 x,.nilSl,.bool false],xG,.rw⟩,.live ⟨[.int .i64 y,.nilSl,.bool false],xG,.rw⟩,.live ⟨[.int .i64 0,.nilSl,.bool false],xG,.rw⟩,.live ⟨out.map W,yT,.rw⟩]∧n=l1.length - i∧i≤l1.length∧out.length=l1.length+l2.length∧OkW out∧val out=val (l1.take i)*val l2∧∀ k,i+l2.length≤k→at0 out k=0) (by rfl) ⟨0,_,rfl,rfl,rfl,by omega,by simp,fun x hx => by simp at hx; omega,by simp [val,sC],fun k _ => uV _ k⟩ ?_
      rintro m vs H ⟨i,out,rfl,rfl,rfl,k1,k2,k3,k4,k5⟩
      refine go ?_
      refine xR (fun h => ?_) (fun h => ?_)
      ·simp [yA] at h
       refine go ?_
       refine yR (fun n vs H => ∃ (j carry:Nat) (p:List Nat),vs=[.c (.ptr 2 0),.c c1,.c (.bool n1),.c c2,.c (.bool n2),.c (.sl 3 0 (l1.length+l2.length) (some (l1.length+l2.length)) 1),i64 (i:Int),.c (.int .u64 (carry:Int)),i64 (l1.length:Int),i64 (i:Int),i64 (l2.length:Int),i64 (j:Int)]∧H=[.live ⟨[.int .i64 x,.nilSl,.bool false],xG,.rw⟩,.live ⟨[.int .i64 y,.nilSl,.bool false],xG,.rw⟩,.live ⟨[.int .i64 0,.nilSl,.bool false],xG,.rw⟩,.live ⟨p.map W,yT,.rw⟩]∧n=l2.length - j∧j≤l2.length∧p.length=l1.length+l2.length∧OkW p∧carry<4294967296∧val p+4294967296 ^ (i+j)*carry=val out+4294967296 ^ i*(at0 l1 i*val (l2.take j))∧∀ k,i+j≤k→at0 p k=at0 out k) (by rfl) ⟨0,0,out,rfl,rfl,rfl,by omega,k2,k3,by omega,by simp [val],fun k _ => rfl⟩ ?_
       rintro m vs H ⟨j,carry,p,rfl,rfl,rfl,j1,j2,j3,j4,j5,j6⟩
       refine go ?_
       refine xR (fun h' => ?_) (fun h' => ?_)
       ·simp [yA] at h'
        refine go ?_
        have e3:arith .add .i64 ((i:Nat):Int) ((j:Nat):Int)=((i+j:Nat):Int):=by
         rw [xB,yH (by omega) (by omega)]
         omega
        have ga:=o1.1.get i
        have gb:=o2.1.get j
        have gw:=j3.get (i+j)
        obtain ⟨r1,r2,r3⟩:=qO (k:=i+j) (out:=p) (by omega) j3 ga gb j4
        have r0:at0 l1 i*at0 l2 j<18446744073709551616:=by omega
        rw [e3]
        refine yJ (by rfl) (by rfl) (by omega) (by omega) ?_
        refine go ?_
        refine wS (k:=i+j) (by rfl) (by omega) (by omega) ?_
        refine go ?_
        rw [show IntKind.u64.wrap ((at0 l1 ((i:Nat):Int).toNat:Nat):Int)=((at0 l1 i:Nat):Int) by rw [Int.toNat_natCast,xQ _ (by omega)],show IntKind.u64.wrap ((at0 l2 ((j:Nat):Int).toNat:Nat):Int)=((at0 l2 j:Nat):Int) by rw [Int.toNat_natCast,xQ _ (by omega)],mulN _ _ r0,xQ _ (by omega:at0 p (i+j)<18446744073709551616),show arith .add .u64 (arith .add .u64 ((at0 p (i+j):Nat):Int) ((at0 l1 i*at0 l2 j:Nat):Int)) ((carry:Nat):Int)=((at0 l1 i*at0 l2 j+at0 p (i+j)+carry:Nat):Int) by rw [addN _ _ (by omega),addN _ _ (by omega)]; congr 1; omega]
        rw [e3]
        refine yJ (by rfl) (by rfl) (by omega) (by omega) ?_
        rw [show IntKind.u32.wrap ((at0 l1 i*at0 l2 j+at0 p (i+j)+carry:Nat):Int)=(((at0 l1 i*at0 l2 j+at0 p (i+j)+carry) % 4294967296:Nat):Int) by rw [xH]; omega]
        refine go ?_
        refine wD (k:=i+j) (by rfl) (by rfl) (by omega) (by omega) ?_
        refine go ?_
        rw [shrN,show arith .add .i64 ((j:Nat):Int) 1=((j+1:Nat):Int) by rw [xB,yH (by omega) (by omega)]; omega]
        refine l_n (by rfl) (by omega) ⟨j+1,_,_,rfl,rfl,rfl,by omega,by simp [j2],j3.set (by omega),r2,?_,fun k hk => ?_⟩
        ·rw [yE,Nat.mul_add,Nat.mul_add,←Nat.add_assoc,←Nat.add_assoc,←j5]
         have e4:4294967296 ^ i*(at0 l1 i*(4294967296 ^ j*at0 l2 j))=4294967296 ^ (i+j)*(at0 l1 i*at0 l2 j):=by
          rw [Nat.pow_add,Nat.mul_left_comm (at0 l1 i),Nat.mul_assoc]
         rw [e4]
         exact r3
        ·rw [wA (by omega)]
         exact j6 k (by omega)
       ·simp [yA] at h'
        have ej:j=l2.length:=by omega
        subst ej
        refine go ?_
        have e3:arith .add .i64 ((i:Nat):Int) l2.length=((i+l2.length:Nat):Int):=by
         rw [xB,yH (by omega) (by omega)]
         omega
        rw [e3]
        refine yJ (by rfl) (by rfl) (by omega) (by omega) ?_
        rw [show IntKind.u32.wrap ((carry:Nat):Int)=((carry:Nat):Int) by rw [xH]; omega]
        refine go ?_
        refine wD (k:=i+l2.length) (by rfl) (by rfl) (by omega) (by omega) ?_
        refine go ?_
        rw [show arith .add .i64 ((i:Nat):Int) 1=((i+1:Nat):Int) by rw [xB,yH (by omega) (by omega)]; omega]
        refine l_n (by rfl) (by omega) ⟨i+1,_,rfl,rfl,rfl,by omega,by simp [j2],j3.set j4,?_,fun k hk => ?_⟩
        ·have v1:=sW p (i+l2.length) carry (by omega)
         rw [j6 _ (by omega),k5 _ (by omega)] at v1
         rw [xI (Nat.le_refl _)] at j5
         rw [yE,Nat.add_mul,←k4,Nat.mul_assoc]
         omega
        ·rw [wA (by omega),j6 _ (by omega)]
         exact k5 _ (by omega)
      ·simp [yA] at h
       have ei:i=l1.length:=by omega
       subst ei
       rw [xI (Nat.le_refl _)] at k4
       refine go ?_
       refine yV [3] (.cons (.c (wT out (by rfl) rfl (by simp) k2.symm (by rw [←k2]; exact List.take_of_length_le (by simp)))) (.cons (.c (.hf trivial)) .nil)) (wC _ (.imm out) k3 (by omega)) (fun u hu => ?_)
       obtain ⟨cs3,rfl,z3⟩:=hu
       obtain ⟨a0,a1,a2,rfl⟩:=z3.three
       refine go ?_
       rw [e1,e2,jJ,←k4]
       exact ZK.fz z3
     ·simp only [yA,yG] at hp
      refine go ?_
      cases hl:yA Cm.lss ((x.natAbs*y.natAbs % 18446744073709551616:Nat):Int) 9223372036854775808
      ·refine go ?_
       refine yB (xM hx) (fun u hu => ?_)
       obtain ⟨c1,l1,n1,rfl,w1,o1,e1⟩:=hu
       refine go ?_
       refine yB (xM hy) (fun u hu => ?_)
       obtain ⟨c2,l2,n2,rfl,w2,o2,e2⟩:=hu
       refine go ?_
       have hl1:l1.length≤n:=xY o1 (by rw [e1] at sx; rwa [xS] at sx)
       have hl2:l2.length≤n:=xY o2 (by rw [e2] at sy; rwa [xS] at sy)
       have e:arith .add .i64 (l1.length:Int) l2.length=((l1.length+l2.length:Nat):Int):=by
        rw [xB,yH (by omega) (by omega)]
        omega
       rw [e]
       refine wX (by rfl) (by rfl) ⟨by omega,by omega,by omega,by omega⟩ ?_
       rw [Int.toNat_natCast,zeros]
       refine go ?_
       refine yR (fun n vs H => ∃ (i:Nat) (out:List Nat),vs=[.c (.ptr 2 0),.c c1,.c (.bool n1),.c c2,.c (.bool n2),.c (.sl 3 0 (l1.length+l2.length) (some (l1.length+l2.length)) 1),i64 (l1.length:Int),i64 (i:Int)]∧H=[.live ⟨[.int .i64 x,.nilSl,.bool false],xG,.rw⟩,.live ⟨[.int .i64 y,.nilSl,.bool false],xG,.rw⟩,.live ⟨[.int .i64 0,.nilSl,.bool false],xG,.rw⟩,.live ⟨out.map W,yT,.rw⟩]∧n=l1.length - i∧i≤l1.length∧out.length=l1.length+l2.length∧OkW out∧val out=val (l1.take i)*val l2∧∀ k,i+l2.length≤k→at0 out k=0) (by rfl) ⟨0,_,rfl,rfl,rfl,by omega,by simp,fun x hx => by simp at hx; omega,by simp [val,sC],fun k _ => uV _ k⟩ ?_
       rintro m vs H ⟨i,out,rfl,rfl,rfl,k1,k2,k3,k4,k5⟩
       refine go ?_
       refine xR (fun h => ?_) (fun h => ?_)
       ·simp [yA] at h
        refine go ?_
        refine yR (fun n vs H => ∃ (j carry:Nat) (p:List Nat),vs=[.c (.ptr 2 0),.c c1,.c (.bool n1),.c c2,.c (.bool n2),.c (.sl 3 0 (l1.length+l2.length) (some (l1.length+l2.length)) 1),i64 (i:Int),.c (.int .u64 (carry:Int)),i64 (l1.length:Int),i64 (i:Int),i64 (l2.length:Int),i64 (j:Int)]∧H=[.live ⟨[.int .i64 x,.nilSl,.bool false],xG,.rw⟩,.live ⟨[.int .i64 y,.nilSl,.bool false],xG,.rw⟩,.live ⟨[.int .i64 0,.nilSl,.bool false],xG,.rw⟩,.live ⟨p.map W,yT,.rw⟩]∧n=l2.length - j∧j≤l2.length∧p.length=l1.length+l2.length∧OkW p∧carry<4294967296∧val p+4294967296 ^ (i+j)*carry=val out+4294967296 ^ i*(at0 l1 i*val (l2.take j))∧∀ k,i+j≤k→at0 p k=at0 out k) (by rfl) ⟨0,0,out,rfl,rfl,rfl,by omega,k2,k3,by omega,by simp [val],fun k _ => rfl⟩ ?_
        rintro m vs H ⟨j,carry,p,rfl,rfl,rfl,j1,j2,j3,j4,j5,j6⟩
        refine go ?_
        refine xR (fun h' => ?_) (fun h' => ?_)
        ·simp [yA] at h'
         refine go ?_
         have e3:arith .add .i64 ((i:Nat):Int) ((j:Nat):Int)=((i+j:Nat):Int):=by
          rw [xB,yH (by omega) (by omega)]
          omega
         have ga:=o1.1.get i
         have gb:=o2.1.get j
         have gw:=j3.get (i+j)
         obtain ⟨r1,r2,r3⟩:=qO (k:=i+j) (out:=p) (by omega) j3 ga gb j4
         have r0:at0 l1 i*at0 l2 j<18446744073709551616:=by omega
         rw [e3]
         refine yJ (by rfl) (by rfl) (by omega) (by omega) ?_
         refine go ?_
         refine wS (k:=i+j) (by rfl) (by omega) (by omega) ?_
         refine go ?_
         rw [show IntKind.u64.wrap ((at0 l1 ((i:Nat):Int).toNat:Nat):Int)=((at0 l1 i:Nat):Int) by rw [Int.toNat_natCast,xQ _ (by omega)],show IntKind.u64.wrap ((at0 l2 ((j:Nat):Int).toNat:Nat):Int)=((at0 l2 j:Nat):Int) by rw [Int.toNat_natCast,xQ _ (by omega)],mulN _ _ r0,xQ _ (by omega:at0 p (i+j)<18446744073709551616),show arith .add .u64 (arith .add .u64 ((at0 p (i+j):Nat):Int) ((at0 l1 i*at0 l2 j:Nat):Int)) ((carry:Nat):Int)=((at0 l1 i*at0 l2 j+at0 p (i+j)+carry:Nat):Int) by rw [addN _ _ (by omega),addN _ _ (by omega)]; congr 1; omega]
         rw [e3]
         refine yJ (by rfl) (by rfl) (by omega) (by omega) ?_
         rw [show IntKind.u32.wrap ((at0 l1 i*at0 l2 j+at0 p (i+j)+carry:Nat):Int)=(((at0 l1 i*at0 l2 j+at0 p (i+j)+carry) % 4294967296:Nat):Int) by rw [xH]; omega]
         refine go ?_
         refine wD (k:=i+j) (by rfl) (by rfl) (by omega) (by omega) ?_
         refine go ?_
         rw [shrN,show arith .add .i64 ((j:Nat):Int) 1=((j+1:Nat):Int) by rw [xB,yH (by omega) (by omega)]; omega]
         refine l_n (by rfl) (by omega) ⟨j+1,_,_,rfl,rfl,rfl,by omega,by simp [j2],j3.set (by omega),r2,?_,fun k hk => ?_⟩
         ·rw [yE,Nat.mul_add,Nat.mul_add,←Nat.add_assoc,←Nat.add_assoc,←j5]
          have e4:4294967296 ^ i*(at0 l1 i*(4294967296 ^ j*at0 l2 j))=4294967296 ^ (i+j)*(at0 l1 i*at0 l2 j):=by
           rw [Nat.pow_add,Nat.mul_left_comm (at0 l1 i),Nat.mul_assoc]
          rw [e4]
          exact r3
         ·rw [wA (by omega)]
          exact j6 k (by omega)
        ·simp [yA] at h'
         have ej:j=l2.length:=by omega
         subst ej
         refine go ?_
         have e3:arith .add .i64 ((i:Nat):Int) l2.length=((i+l2.length:Nat):Int):=by
          rw [xB,yH (by omega) (by omega)]
          omega
         rw [e3]
         refine yJ (by rfl) (by rfl) (by omega) (by omega) ?_
         rw [show IntKind.u32.wrap ((carry:Nat):Int)=((carry:Nat):Int) by rw [xH]; omega]
         refine go ?_
         refine wD (k:=i+l2.length) (by rfl) (by rfl) (by omega) (by omega) ?_
         refine go ?_
         rw [show arith .add .i64 ((i:Nat):Int) 1=((i+1:Nat):Int) by rw [xB,yH (by omega) (by omega)]; omega]
         refine l_n (by rfl) (by omega) ⟨i+1,_,rfl,rfl,rfl,by omega,by simp [j2],j3.set j4,?_,fun k hk => ?_⟩
         ·have v1:=sW p (i+l2.length) carry (by omega)
          rw [j6 _ (by omega),k5 _ (by omega)] at v1
          rw [xI (Nat.le_refl _)] at j5
          rw [yE,Nat.add_mul,←k4,Nat.mul_assoc]
          omega
         ·rw [wA (by omega),j6 _ (by omega)]
          exact k5 _ (by omega)
       ·simp [yA] at h
        have ei:i=l1.length:=by omega
        subst ei
        rw [xI (Nat.le_refl _)] at k4
        refine go ?_
        refine yV [3] (.cons (.c (wT out (by rfl) rfl (by simp) k2.symm (by rw [←k2]; exact List.take_of_length_le (by simp)))) (.cons (.c (.hf trivial)) .nil)) (wC _ (.imm out) k3 (by omega)) (fun u hu => ?_)
        obtain ⟨cs3,rfl,z3⟩:=hu
        obtain ⟨a0,a1,a2,rfl⟩:=z3.three
        refine go ?_
        rw [e1,e2,jJ,←k4]
        exact ZK.fz z3
      ·simp only [yA,yG] at hl
       refine go ?_
       rw [hq0,hr0]
       refine go ?_
       have hm:x.natAbs*y.natAbs<18446744073709551616:=by omega
       rw [Nat.mod_eq_of_lt hm] at hl ⊢
       have h0:0≤(-x)*y:=Int.mul_nonneg (by omega) (by omega)
       rw [Int.neg_mul] at h0
       have ez:x*y = -((x.natAbs*y.natAbs:Nat):Int):=by rw [←Int.natAbs_mul]; omega
       rw [yH (n:=((x.natAbs*y.natAbs:Nat):Int)) (by omega) (by omega),yH (by omega) (by omega),Int.zero_sub,ez]
       exact ZK.fz (.small _ (by omega) (by omega))
    ·have hr0:=hr
     simp [yA] at hr
     refine go ?_
     rw [show IntKind.u64.wrap (0 - IntKind.u64.wrap x)=((x.natAbs:Nat):Int) by rw [xN,xN]; omega,show IntKind.u64.wrap (0 - IntKind.u64.wrap y)=((y.natAbs:Nat):Int) by rw [xN,xN]; omega]
     refine yB (mP (x:=x.natAbs) (y:=y.natAbs) (by omega) (by omega)) (fun u hu => ?_)
     obtain rfl:=hu
     refine go ?_
     cases hp:yA Cm.eql ((x.natAbs*y.natAbs / 18446744073709551616:Nat):Int) 0
     ·refine go ?_
      refine yB (xM hx) (fun u hu => ?_)
      obtain ⟨c1,l1,n1,rfl,w1,o1,e1⟩:=hu
      refine go ?_
      refine yB (xM hy) (fun u hu => ?_)
      obtain ⟨c2,l2,n2,rfl,w2,o2,e2⟩:=hu
      refine go ?_
      have hl1:l1.length≤n:=xY o1 (by rw [e1] at sx; rwa [xS] at sx)
      have hl2:l2.length≤n:=xY o2 (by rw [e2] at sy; rwa [xS] at sy)
      have e:arith .add .i64 (l1.length:Int) l2.length=((l1.length+l2.length:Nat):Int):=by
       rw [xB,yH (by omega) (by omega)]
       omega
      rw [e]
      refine wX (by rfl) (by rfl) ⟨by omega,by omega,by omega,by omega⟩ ?_
      rw [Int.toNat_natCast,zeros]
      refine go ?_
      refine yR (fun n vs H => ∃ (i:Nat) (out:List Nat),vs=[.c (.ptr 2 0),.c c1,.c (.bool n1),.c c2,.c (.bool n2),.c (.sl 3 0 (l1.length+l2.length) (some (l1.length+l2.length)) 1),i64 (l1.length:Int),i64 (i:Int)]∧H=[.live ⟨[.int .i64 x,.nilSl,.bool false],xG,.rw⟩,.live ⟨[.int .i64 y,.nilSl,.bool false],xG,.rw⟩,.live ⟨[.int .i64 0,.nilSl,.bool false],xG,.rw⟩,.live ⟨out.map W,yT,.rw⟩]∧n=l1.length - i∧i≤l1.length∧out.length=l1.length+l2.length∧OkW out∧val out=val (l1.take i)*val l2∧∀ k,i+l2.length≤k→at0 out k=0) (by rfl) ⟨0,_,rfl,rfl,rfl,by omega,by simp,fun x hx => by simp at hx; omega,by simp [val,sC],fun k _ => uV _ k⟩ ?_
      rintro m vs H ⟨i,out,rfl,rfl,rfl,k1,k2,k3,k4,k5⟩
      refine go ?_
      refine xR (fun h => ?_) (fun h => ?_)
      ·simp [yA] at h
       refine go ?_
       refine yR (fun n vs H => ∃ (j carry:Nat) (p:List Nat),vs=[.c (.ptr 2 0),.c c1,.c (.bool n1),.c c2,.c (.bool n2),.c (.sl 3 0 (l1.length+l2.length) (some (l1.length+l2.length)) 1),i64 (i:Int),.c (.int .u64 (carry:Int)),i64 (l1.length:Int),i64 (i:Int),i64 (l2.length:Int),i64 (j:Int)]∧H=[.live ⟨[.int .i64 x,.nilSl,.bool false],xG,.rw⟩,.live ⟨[.int .i64 y,.nilSl,.bool false],xG,.rw⟩,.live ⟨[.int .i64 0,.nilSl,.bool false],xG,.rw⟩,.live ⟨p.map W,yT,.rw⟩]∧n=l2.length - j∧j≤l2.length∧p.length=l1.length+l2.length∧OkW p∧carry<4294967296∧val p+4294967296 ^ (i+j)*carry=val out+4294967296 ^ i*(at0 l1 i*val (l2.take j))∧∀ k,i+j≤k→at0 p k=at0 out k) (by rfl) ⟨0,0,out,rfl,rfl,rfl,by omega,k2,k3,by omega,by simp [val],fun k _ => rfl⟩ ?_
       rintro m vs H ⟨j,carry,p,rfl,rfl,rfl,j1,j2,j3,j4,j5,j6⟩
       refine go ?_
       refine xR (fun h' => ?_) (fun h' => ?_)
       ·simp [yA] at h'
        refine go ?_
        have e3:arith .add .i64 ((i:Nat):Int) ((j:Nat):Int)=((i+j:Nat):Int):=by
         rw [xB,yH (by omega) (by omega)]
         omega
        have ga:=o1.1.get i
        have gb:=o2.1.get j
        have gw:=j3.get (i+j)
        obtain ⟨r1,r2,r3⟩:=qO (k:=i+j) (out:=p) (by omega) j3 ga gb j4
        have r0:at0 l1 i*at0 l2 j<18446744073709551616:=by omega
        rw [e3]
        refine yJ (by rfl) (by rfl) (by omega) (by omega) ?_
        refine go ?_
        refine wS (k:=i+j) (by rfl) (by omega) (by omega) ?_
        refine go ?_
        rw [show IntKind.u64.wrap ((at0 l1 ((i:Nat):Int).toNat:Nat):Int)=((at0 l1 i:Nat):Int) by rw [Int.toNat_natCast,xQ _ (by omega)],show IntKind.u64.wrap ((at0 l2 ((j:Nat):Int).toNat:Nat):Int)=((at0 l2 j:Nat):Int) by rw [Int.toNat_natCast,xQ _ (by omega)],mulN _ _ r0,xQ _ (by omega:at0 p (i+j)<18446744073709551616),show arith .add .u64 (arith .add .u64 ((at0 p (i+j):Nat):Int) ((at0 l1 i*at0 l2 j:Nat):Int)) ((carry:Nat):Int)=((at0 l1 i*at0 l2 j+at0 p (i+j)+carry:Nat):Int) by rw [addN _ _ (by omega),addN _ _ (by omega)]; congr 1; omega]
        rw [e3]
        refine yJ (by rfl) (by rfl) (by omega) (by omega) ?_
        rw [show IntKind.u32.wrap ((at0 l1 i*at0 l2 j+at0 p (i+j)+carry:Nat):Int)=(((at0 l1 i*at0 l2 j+at0 p (i+j)+carry) % 4294967296:Nat):Int) by rw [xH]; omega]
        refine go ?_
        refine wD (k:=i+j) (by rfl) (by rfl) (by omega) (by omega) ?_
        refine go ?_
        rw [shrN,show arith .add .i64 ((j:Nat):Int) 1=((j+1:Nat):Int) by rw [xB,yH (by omega) (by omega)]; omega]
        refine l_n (by rfl) (by omega) ⟨j+1,_,_,rfl,rfl,rfl,by omega,by simp [j2],j3.set (by omega),r2,?_,fun k hk => ?_⟩
        ·rw [yE,Nat.mul_add,Nat.mul_add,←Nat.add_assoc,←Nat.add_assoc,←j5]
         have e4:4294967296 ^ i*(at0 l1 i*(4294967296 ^ j*at0 l2 j))=4294967296 ^ (i+j)*(at0 l1 i*at0 l2 j):=by
          rw [Nat.pow_add,Nat.mul_left_comm (at0 l1 i),Nat.mul_assoc]
         rw [e4]
         exact r3
        ·rw [wA (by omega)]
         exact j6 k (by omega)
       ·simp [yA] at h'
        have ej:j=l2.length:=by omega
        subst ej
        refine go ?_
        have e3:arith .add .i64 ((i:Nat):Int) l2.length=((i+l2.length:Nat):Int):=by
         rw [xB,yH (by omega) (by omega)]
         omega
        rw [e3]
        refine yJ (by rfl) (by rfl) (by omega) (by omega) ?_
        rw [show IntKind.u32.wrap ((carry:Nat):Int)=((carry:Nat):Int) by rw [xH]; omega]
        refine go ?_
        refine wD (k:=i+l2.length) (by rfl) (by rfl) (by omega) (by omega) ?_
        refine go ?_
        rw [show arith .add .i64 ((i:Nat):Int) 1=((i+1:Nat):Int) by rw [xB,yH (by omega) (by omega)]; omega]
        refine l_n (by rfl) (by omega) ⟨i+1,_,rfl,rfl,rfl,by omega,by simp [j2],j3.set j4,?_,fun k hk => ?_⟩
        ·have v1:=sW p (i+l2.length) carry (by omega)
         rw [j6 _ (by omega),k5 _ (by omega)] at v1
         rw [xI (Nat.le_refl _)] at j5
         rw [yE,Nat.add_mul,←k4,Nat.mul_assoc]
         omega
        ·rw [wA (by omega),j6 _ (by omega)]
         exact k5 _ (by omega)
      ·simp [yA] at h
       have ei:i=l1.length:=by omega
       subst ei
       rw [xI (Nat.le_refl _)] at k4
       refine go ?_
       refine yV [3] (.cons (.c (wT out (by rfl) rfl (by simp) k2.symm (by rw [←k2]; exact List.take_of_length_le (by simp)))) (.cons (.c (.hf trivial)) .nil)) (wC _ (.imm out) k3 (by omega)) (fun u hu => ?_)
       obtain ⟨cs3,rfl,z3⟩:=hu
       obtain ⟨a0,a1,a2,rfl⟩:=z3.three
       refine go ?_
       rw [e1,e2,jJ,←k4]
       exact ZK.fz z3
     ·simp only [yA,yG] at hp
      refine go ?_
      cases hl:yA Cm.lss ((x.natAbs*y.natAbs % 18446744073709551616:Nat):Int) 9223372036854775808
      ·refine go ?_
       refine yB (xM hx) (fun u hu => ?_)
       obtain ⟨c1,l1,n1,rfl,w1,o1,e1⟩:=hu
       refine go ?_
       refine yB (xM hy) (fun u hu => ?_)
       obtain ⟨c2,l2,n2,rfl,w2,o2,e2⟩:=hu
       refine go ?_
       have hl1:l1.length≤n:=xY o1 (by rw [e1] at sx; rwa [xS] at sx)
       have hl2:l2.length≤n:=xY o2 (by rw [e2] at sy; rwa [xS] at sy)
       have e:arith .add .i64 (l1.length:Int) l2.length=((l1.length+l2.length:Nat):Int):=by
        rw [xB,yH (by omega) (by omega)]
        omega
       rw [e]
       refine wX (by rfl) (by rfl) ⟨by omega,by omega,by omega,by omega⟩ ?_
       rw [Int.toNat_natCast,zeros]
       refine go ?_
       refine yR (fun n vs H => ∃ (i:Nat) (out:List Nat),vs=[.c (.ptr 2 0),.c c1,.c (.bool n1),.c c2,.c (.bool n2),.c (.sl 3 0 (l1.length+l2.length) (some (l1.length+l2.length)) 1),i64 (l1.length:Int),i64 (i:Int)]∧H=[.live ⟨[.int .i64 x,.nilSl,.bool false],xG,.rw⟩,.live ⟨[.int .i64 y,.nilSl,.bool false],xG,.rw⟩,.live ⟨[.int .i64 0,.nilSl,.bool false],xG,.rw⟩,.live ⟨out.map W,yT,.rw⟩]∧n=l1.length - i∧i≤l1.length∧out.length=l1.length+l2.length∧OkW out∧val out=val (l1.take i)*val l2∧∀ k,i+l2.length≤k→at0 out k=0) (by rfl) ⟨0,_,rfl,rfl,rfl,by omega,by simp,fun x hx => by simp at hx; omega,by simp [val,sC],fun k _ => uV _ k⟩ ?_
       rintro m vs H ⟨i,out,rfl,rfl,rfl,k1,k2,k3,k4,k5⟩
       refine go ?_
       refine xR (fun h => ?_) (fun h => ?_)
       ·simp [yA] at h
        refine go ?_
        refine yR (fun n vs H => ∃ (j carry:Nat) (p:List Nat),vs=[.c (.ptr 2 0),.c c1,.c (.bool n1),.c c2,.c (.bool n2),.c (.sl 3 0 (l1.length+l2.length) (some (l1.length+l2.length)) 1),i64 (i:Int),.c (.int .u64 (carry:Int)),i64 (l1.length:Int),i64 (i:Int),i64 (l2.length:Int),i64 (j:Int)]∧H=[.live ⟨[.int .i64 x,.nilSl,.bool false],xG,.rw⟩,.live ⟨[.int .i64 y,.nilSl,.bool false],xG,.rw⟩,.live ⟨[.int .i64 0,.nilSl,.bool false],xG,.rw⟩,.live ⟨p.map W,yT,.rw⟩]∧n=l2.length - j∧j≤l2.length∧p.length=l1.length+l2.length∧OkW p∧carry<4294967296∧val p+4294967296 ^ (i+j)*carry=val out+4294967296 ^ i*(at0 l1 i*val (l2.take j))∧∀ k,i+j≤k→at0 p k=at0 out k) (by rfl) ⟨0,0,out,rfl,rfl,rfl,by omega,k2,k3,by omega,by simp [val],fun k _ => rfl⟩ ?_
        rintro m vs H ⟨j,carry,p,rfl,rfl,rfl,j1,j2,j3,j4,j5,j6⟩
        refine go ?_
        refine xR (fun h' => ?_) (fun h' => ?_)
        ·simp [yA] at h'
         refine go ?_
         have e3:arith .add .i64 ((i:Nat):Int) ((j:Nat):Int)=((i+j:Nat):Int):=by
          rw [xB,yH (by omega) (by omega)]
          omega
         have ga:=o1.1.get i
         have gb:=o2.1.get j
         have gw:=j3.get (i+j)
         obtain ⟨r1,r2,r3⟩:=qO (k:=i+j) (out:=p) (by omega) j3 ga gb j4
         have r0:at0 l1 i*at0 l2 j<18446744073709551616:=by omega
         rw [e3]
         refine yJ (by rfl) (by rfl) (by omega) (by omega) ?_
         refine go ?_
         refine wS (k:=i+j) (by rfl) (by omega) (by omega) ?_
         refine go ?_
         rw [show IntKind.u64.wrap ((at0 l1 ((i:Nat):Int).toNat:Nat):Int)=((at0 l1 i:Nat):Int) by rw [Int.toNat_natCast,xQ _ (by omega)],show IntKind.u64.wrap ((at0 l2 ((j:Nat):Int).toNat:Nat):Int)=((at0 l2 j:Nat):Int) by rw [Int.toNat_natCast,xQ _ (by omega)],mulN _ _ r0,xQ _ (by omega:at0 p (i+j)<18446744073709551616),show arith .add .u64 (arith .add .u64 ((at0 p (i+j):Nat):Int) ((at0 l1 i*at0 l2 j:Nat):Int)) ((carry:Nat):Int)=((at0 l1 i*at0 l2 j+at0 p (i+j)+carry:Nat):Int) by rw [addN _ _ (by omega),addN _ _ (by omega)]; congr 1; omega]
         rw [e3]
         refine yJ (by rfl) (by rfl) (by omega) (by omega) ?_
         rw [show IntKind.u32.wrap ((at0 l1 i*at0 l2 j+at0 p (i+j)+carry:Nat):Int)=(((at0 l1 i*at0 l2 j+at0 p (i+j)+carry) % 4294967296:Nat):Int) by rw [xH]; omega]
         refine go ?_
         refine wD (k:=i+j) (by rfl) (by rfl) (by omega) (by omega) ?_
         refine go ?_
         rw [shrN,show arith .add .i64 ((j:Nat):Int) 1=((j+1:Nat):Int) by rw [xB,yH (by omega) (by omega)]; omega]
         refine l_n (by rfl) (by omega) ⟨j+1,_,_,rfl,rfl,rfl,by omega,by simp [j2],j3.set (by omega),r2,?_,fun k hk => ?_⟩
         ·rw [yE,Nat.mul_add,Nat.mul_add,←Nat.add_assoc,←Nat.add_assoc,←j5]
          have e4:4294967296 ^ i*(at0 l1 i*(4294967296 ^ j*at0 l2 j))=4294967296 ^ (i+j)*(at0 l1 i*at0 l2 j):=by
           rw [Nat.pow_add,Nat.mul_left_comm (at0 l1 i),Nat.mul_assoc]
          rw [e4]
          exact r3
         ·rw [wA (by omega)]
          exact j6 k (by omega)
        ·simp [yA] at h'
         have ej:j=l2.length:=by omega
         subst ej
         refine go ?_
         have e3:arith .add .i64 ((i:Nat):Int) l2.length=((i+l2.length:Nat):Int):=by
          rw [xB,yH (by omega) (by omega)]
          omega
         rw [e3]
         refine yJ (by rfl) (by rfl) (by omega) (by omega) ?_
         rw [show IntKind.u32.wrap ((carry:Nat):Int)=((carry:Nat):Int) by rw [xH]; omega]
         refine go ?_
         refine wD (k:=i+l2.length) (by rfl) (by rfl) (by omega) (by omega) ?_
         refine go ?_
         rw [show arith .add .i64 ((i:Nat):Int) 1=((i+1:Nat):Int) by rw [xB,yH (by omega) (by omega)]; omega]
         refine l_n (by rfl) (by omega) ⟨i+1,_,rfl,rfl,rfl,by omega,by simp [j2],j3.set j4,?_,fun k hk => ?_⟩
         ·have v1:=sW p (i+l2.length) carry (by omega)
          rw [j6 _ (by omega),k5 _ (by omega)] at v1
          rw [xI (Nat.le_refl _)] at j5
          rw [yE,Nat.add_mul,←k4,Nat.mul_assoc]
          omega
         ·rw [wA (by omega),j6 _ (by omega)]
          exact k5 _ (by omega)
       ·simp [yA] at h
        have ei:i=l1.length:=by omega
        subst ei
        rw [xI (Nat.le_refl _)] at k4
        refine go ?_
        refine yV [3] (.cons (.c (wT out (by rfl) rfl (by simp) k2.symm (by rw [←k2]; exact List.take_of_length_le (by simp)))) (.cons (.c (.hf trivial)) .nil)) (wC _ (.imm out) k3 (by omega)) (fun u hu => ?_)
        obtain ⟨cs3,rfl,z3⟩:=hu
        obtain ⟨a0,a1,a2,rfl⟩:=z3.three
        refine go ?_
        rw [e1,e2,jJ,←k4]
        exact ZK.fz z3
      ·simp only [yA,yG] at hl
       refine go ?_
       rw [hq0,hr0]
       refine go ?_
       have hm:x.natAbs*y.natAbs<18446744073709551616:=by omega
       rw [Nat.mod_eq_of_lt hm] at hl ⊢
       have h0:0≤x*y:=by rw [←Int.neg_mul_neg]; exact Int.mul_nonneg (by omega) (by omega)
       have ez:x*y=((x.natAbs*y.natAbs:Nat):Int):=by rw [←Int.natAbs_mul]; omega
       rw [yH (by omega) (by omega),ez]
       exact ZK.fz (.small _ (by omega) (by omega))
  ·refine go ?_
   refine yB (xM hx) (fun u hu => ?_)
   obtain ⟨c1,l1,n1,rfl,w1,o1,e1⟩:=hu
   refine go ?_
   refine yB (xM hy) (fun u hu => ?_)
   obtain ⟨c2,l2,n2,rfl,w2,o2,e2⟩:=hu
   refine go ?_
   have hl1:l1.length≤n:=xY o1 (by rw [e1] at sx; rwa [xS] at sx)
   have hl2:l2.length≤n:=xY o2 (by rw [e2] at sy; rwa [xS] at sy)
   have e:arith .add .i64 (l1.length:Int) l2.length=((l1.length+l2.length:Nat):Int):=by
    rw [xB,yH (by omega) (by omega)]
    omega
   rw [e]
   refine wX (by rfl) (by rfl) ⟨by omega,by omega,by omega,by omega⟩ ?_
   rw [Int.toNat_natCast,zeros]
   refine go ?_
   refine yR (fun n vs H => ∃ (i:Nat) (out:List Nat),vs=[.c (.ptr 2 0),.c c1,.c (.bool n1),.c c2,.c (.bool n2),.c (.sl 3 0 (l1.length+l2.length) (some (l1.length+l2.length)) 1),i64 (l1.length:Int),i64 (i:Int)]∧H=[.live ⟨[.int .i64 x,.nilSl,.bool false],xG,.rw⟩,.live ⟨[.int .i64 0,.imm ly.length (ly.map W),.bool ny],xG,.rw⟩,.live ⟨[.int .i64 0,.nilSl,.bool false],xG,.rw⟩,.live ⟨out.map W,yT,.rw⟩]∧n=l1.length - i∧i≤l1.length∧out.length=l1.length+l2.length∧OkW out∧val out=val (l1.take i)*val l2∧∀ k,i+l2.length≤k→at0 out k=0) (by rfl) ⟨0,_,rfl,rfl,rfl,by omega,by simp,fun x hx => by simp at hx; omega,by simp [val,sC],fun k _ => uV _ k⟩ ?_
   rintro m vs H ⟨i,out,rfl,rfl,rfl,k1,k2,k3,k4,k5⟩
   refine go ?_
   refine xR (fun h => ?_) (fun h => ?_)
   ·simp [yA] at h
    refine go ?_
    refine yR (fun n vs H => ∃ (j carry:Nat) (p:List Nat),vs=[.c (.ptr 2 0),.c c1,.c (.bool n1),.c c2,.c (.bool n2),.c (.sl 3 0 (l1.length+l2.length) (some (l1.length+l2.length)) 1),i64 (i:Int),.c (.int .u64 (carry:Int)),i64 (l1.length:Int),i64 (i:Int),i64 (l2.length:Int),i64 (j:Int)]∧H=[.live ⟨[.int .i64 x,.nilSl,.bool false],xG,.rw⟩,.live ⟨[.int .i64 0,.imm ly.length (ly.map W),.bool ny],xG,.rw⟩,.live ⟨[.int .i64 0,.nilSl,.bool false],xG,.rw⟩,.live ⟨p.map W,yT,.rw⟩]∧n=l2.length - j∧j≤l2.length∧p.length=l1.length+l2.length∧OkW p∧carry<4294967296∧val p+4294967296 ^ (i+j)*carry=val out+4294967296 ^ i*(at0 l1 i*val (l2.take j))∧∀ k,i+j≤k→at0 p k=at0 out k) (by rfl) ⟨0,0,out,rfl,rfl,rfl,by omega,k2,k3,by omega,by simp [val],fun k _ => rfl⟩ ?_
    rintro m vs H ⟨j,carry,p,rfl,rfl,rfl,j1,j2,j3,j4,j5,j6⟩
    refine go ?_
    refine xR (fun h' => ?_) (fun h' => ?_)
    ·simp [yA] at h'
     refine go ?_
     have e3:arith .add .i64 ((i:Nat):Int) ((j:Nat):Int)=((i+j:Nat):Int):=by
      rw [xB,yH (by omega) (by omega)]
      omega
     have ga:=o1.1.get i
     have gb:=o2.1.get j
     have gw:=j3.get (i+j)
     obtain ⟨r1,r2,r3⟩:=qO (k:=i+j) (out:=p) (by omega) j3 ga gb j4
     have r0:at0 l1 i*at0 l2 j<18446744073709551616:=by omega
     rw [e3]
     refine yJ (by rfl) (by rfl) (by omega) (by omega) ?_
     refine go ?_
     refine wS (k:=i+j) (by rfl) (by omega) (by omega) ?_
     refine go ?_
     rw [show IntKind.u64.wrap ((at0 l1 ((i:Nat):Int).toNat:Nat):Int)=((at0 l1 i:Nat):Int) by rw [Int.toNat_natCast,xQ _ (by omega)],show IntKind.u64.wrap ((at0 l2 ((j:Nat):Int).toNat:Nat):Int)=((at0 l2 j:Nat):Int) by rw [Int.toNat_natCast,xQ _ (by omega)],mulN _ _ r0,xQ _ (by omega:at0 p (i+j)<18446744073709551616),show arith .add .u64 (arith .add .u64 ((at0 p (i+j):Nat):Int) ((at0 l1 i*at0 l2 j:Nat):Int)) ((carry:Nat):Int)=((at0 l1 i*at0 l2 j+at0 p (i+j)+carry:Nat):Int) by rw [addN _ _ (by omega),addN _ _ (by omega)]; congr 1; omega]
     rw [e3]
     refine yJ (by rfl) (by rfl) (by omega) (by omega) ?_
     rw [show IntKind.u32.wrap ((at0 l1 i*at0 l2 j+at0 p (i+j)+carry:Nat):Int)=(((at0 l1 i*at0 l2 j+at0 p (i+j)+carry) % 4294967296:Nat):Int) by rw [xH]; omega]
     refine go ?_
     refine wD (k:=i+j) (by rfl) (by rfl) (by omega) (by omega) ?_
     refine go ?_
     rw [shrN,show arith .add .i64 ((j:Nat):Int) 1=((j+1:Nat):Int) by rw [xB,yH (by omega) (by omega)]; omega]
     refine l_n (by rfl) (by omega) ⟨j+1,_,_,rfl,rfl,rfl,by omega,by simp [j2],j3.set (by omega),r2,?_,fun k hk => ?_⟩
     ·rw [yE,Nat.mul_add,Nat.mul_add,←Nat.add_assoc,←Nat.add_assoc,←j5]
      have e4:4294967296 ^ i*(at0 l1 i*(4294967296 ^ j*at0 l2 j))=4294967296 ^ (i+j)*(at0 l1 i*at0 l2 j):=by
       rw [Nat.pow_add,Nat.mul_left_comm (at0 l1 i),Nat.mul_assoc]
      rw [e4]
      exact r3
     ·rw [wA (by omega)]
      exact j6 k (by omega)
    ·simp [yA] at h'
     have ej:j=l2.length:=by omega
     subst ej
     refine go ?_
     have e3:arith .add .i64 ((i:Nat):Int) l2.length=((i+l2.length:Nat):Int):=by
      rw [xB,yH (by omega) (by omega)]
      omega
     rw [e3]
     refine yJ (by rfl) (by rfl) (by omega) (by omega) ?_
     rw [show IntKind.u32.wrap ((carry:Nat):Int)=((carry:Nat):Int) by rw [xH]; omega]
     refine go ?_
     refine wD (k:=i+l2.length) (by rfl) (by rfl) (by omega) (by omega) ?_
     refine go ?_
     rw [show arith .add .i64 ((i:Nat):Int) 1=((i+1:Nat):Int) by rw [xB,yH (by omega) (by omega)]; omega]
     refine l_n (by rfl) (by omega) ⟨i+1,_,rfl,rfl,rfl,by omega,by simp [j2],j3.set j4,?_,fun k hk => ?_⟩
     ·have v1:=sW p (i+l2.length) carry (by omega)
      rw [j6 _ (by omega),k5 _ (by omega)] at v1
      rw [xI (Nat.le_refl _)] at j5
      rw [yE,Nat.add_mul,←k4,Nat.mul_assoc]
      omega
     ·rw [wA (by omega),j6 _ (by omega)]
      exact k5 _ (by omega)
   ·simp [yA] at h
    have ei:i=l1.length:=by omega
    subst ei
    rw [xI (Nat.le_refl _)] at k4
    refine go ?_
    refine yV [3] (.cons (.c (wT out (by rfl) rfl (by simp) k2.symm (by rw [←k2]; exact List.take_of_length_le (by simp)))) (.cons (.c (.hf trivial)) .nil)) (wC _ (.imm out) k3 (by omega)) (fun u hu => ?_)
    obtain ⟨cs3,rfl,z3⟩:=hu
    obtain ⟨a0,a1,a2,rfl⟩:=z3.three
    refine go ?_
    rw [e1,e2,jJ,←k4]
    exact ZK.fz z3
 ·obtain ⟨d0,d1,d2,rfl⟩:=hy.three
  refine go ?_
  refine yB (xM hx) (fun u hu => ?_)
  obtain ⟨c1,l1,n1,rfl,w1,o1,e1⟩:=hu
  refine go ?_
  refine yB (xM hy) (fun u hu => ?_)
  obtain ⟨c2,l2,n2,rfl,w2,o2,e2⟩:=hu
  refine go ?_
  have hl1:l1.length≤n:=xY o1 (by rw [e1] at sx; rwa [xS] at sx)
  have hl2:l2.length≤n:=xY o2 (by rw [e2] at sy; rwa [xS] at sy)
  have e:arith .add .i64 (l1.length:Int) l2.length=((l1.length+l2.length:Nat):Int):=by
   rw [xB,yH (by omega) (by omega)]
   omega
  rw [e]
  refine wX (by rfl) (by rfl) ⟨by omega,by omega,by omega,by omega⟩ ?_
  rw [Int.toNat_natCast,zeros]
  refine go ?_
  refine yR (fun n vs H => ∃ (i:Nat) (out:List Nat),vs=[.c (.ptr 2 0),.c c1,.c (.bool n1),.c c2,.c (.bool n2),.c (.sl 3 0 (l1.length+l2.length) (some (l1.length+l2.length)) 1),i64 (l1.length:Int),i64 (i:Int)]∧H=[.live ⟨[.int .i64 0,.imm lx.length (lx.map W),.bool nx],xG,.rw⟩,.live ⟨[d0,d1,d2],xG,.rw⟩,.live ⟨[.int .i64 0,.nilSl,.bool false],xG,.rw⟩,.live ⟨out.map W,yT,.rw⟩]∧n=l1.length - i∧i≤l1.length∧out.length=l1.length+l2.length∧OkW out∧val out=val (l1.take i)*val l2∧∀ k,i+l2.length≤k→at0 out k=0) (by rfl) ⟨0,_,rfl,rfl,rfl,by omega,by simp,fun x hx => by simp at hx; omega,by simp [val,sC],fun k _ => uV _ k⟩ ?_
  rintro m vs H ⟨i,out,rfl,rfl,rfl,k1,k2,k3,k4,k5⟩
  refine go ?_
  refine xR (fun h => ?_) (fun h => ?_)
  ·simp [yA] at h
   refine go ?_
   refine yR (fun n vs H => ∃ (j carry:Nat) (p:List Nat),vs=[.c (.ptr 2 0),.c c1,.c (.bool n1),.c c2,.c (.bool n2),.c (.sl 3 0 (l1.length+l2.length) (some (l1.length+l2.length)) 1),i64 (i:Int),.c (.int .u64 (carry:Int)),i64 (l1.length:Int),i64 (i:Int),i64 (l2.length:Int),i64 (j:Int)]∧H=[.live ⟨[.int .i64 0,.imm lx.length (lx.map W),.bool nx],xG,.rw⟩,.live ⟨[d0,d1,d2],xG,.rw⟩,.live ⟨[.int .i64 0,.nilSl,.bool false],xG,.rw⟩,.live ⟨p.map W,yT,.rw⟩]∧n=l2.length - j∧j≤l2.length∧p.length=l1.length+l2.length∧OkW p∧carry<4294967296∧val p+4294967296 ^ (i+j)*carry=val out+4294967296 ^ i*(at0 l1 i*val (l2.take j))∧∀ k,i+j≤k→at0 p k=at0 out k) (by rfl) ⟨0,0,out,rfl,rfl,rfl,by omega,k2,k3,by omega,by simp [val],fun k _ => rfl⟩ ?_
   rintro m vs H ⟨j,carry,p,rfl,rfl,rfl,j1,j2,j3,j4,j5,j6⟩
   refine go ?_
   refine xR (fun h' => ?_) (fun h' => ?_)
   ·simp [yA] at h'
    refine go ?_
    have e3:arith .add .i64 ((i:Nat):Int) ((j:Nat):Int)=((i+j:Nat):Int):=by
     rw [xB,yH (by omega) (by omega)]
     omega
    have ga:=o1.1.get i
    have gb:=o2.1.get j
    have gw:=j3.get (i+j)
    obtain ⟨r1,r2,r3⟩:=qO (k:=i+j) (out:=p) (by omega) j3 ga gb j4
    have r0:at0 l1 i*at0 l2 j<18446744073709551616:=by omega
    rw [e3]
    refine yJ (by rfl) (by rfl) (by omega) (by omega) ?_
    refine go ?_
    refine wS (k:=i+j) (by rfl) (by omega) (by omega) ?_
    refine go ?_
    rw [show IntKind.u64.wrap ((at0 l1 ((i:Nat):Int).toNat:Nat):Int)=((at0 l1 i:Nat):Int) by rw [Int.toNat_natCast,xQ _ (by omega)],show IntKind.u64.wrap ((at0 l2 ((j:Nat):Int).toNat:Nat):Int)=((at0 l2 j:Nat):Int) by rw [Int.toNat_natCast,xQ _ (by omega)],mulN _ _ r0,xQ _ (by omega:at0 p (i+j)<18446744073709551616),show arith .add .u64 (arith .add .u64 ((at0 p (i+j):Nat):Int) ((at0 l1 i*at0 l2 j:Nat):Int)) ((carry:Nat):Int)=((at0 l1 i*at0 l2 j+at0 p (i+j)+carry:Nat):Int) by rw [addN _ _ (by omega),addN _ _ (by omega)]; congr 1; omega]
    rw [e3]
    refine yJ (by rfl) (by rfl) (by omega) (by omega) ?_
    rw [show IntKind.u32.wrap ((at0 l1 i*at0 l2 j+at0 p (i+j)+carry:Nat):Int)=(((at0 l1 i*at0 l2 j+at0 p (i+j)+carry) % 4294967296:Nat):Int) by rw [xH]; omega]
    refine go ?_
    refine wD (k:=i+j) (by rfl) (by rfl) (by omega) (by omega) ?_
    refine go ?_
    rw [shrN,show arith .add .i64 ((j:Nat):Int) 1=((j+1:Nat):Int) by rw [xB,yH (by omega) (by omega)]; omega]
    refine l_n (by rfl) (by omega) ⟨j+1,_,_,rfl,rfl,rfl,by omega,by simp [j2],j3.set (by omega),r2,?_,fun k hk => ?_⟩
    ·rw [yE,Nat.mul_add,Nat.mul_add,←Nat.add_assoc,←Nat.add_assoc,←j5]
     have e4:4294967296 ^ i*(at0 l1 i*(4294967296 ^ j*at0 l2 j))=4294967296 ^ (i+j)*(at0 l1 i*at0 l2 j):=by
      rw [Nat.pow_add,Nat.mul_left_comm (at0 l1 i),Nat.mul_assoc]
     rw [e4]
     exact r3
    ·rw [wA (by omega)]
     exact j6 k (by omega)
   ·simp [yA] at h'
    have ej:j=l2.length:=by omega
    subst ej
    refine go ?_
    have e3:arith .add .i64 ((i:Nat):Int) l2.length=((i+l2.length:Nat):Int):=by
     rw [xB,yH (by omega) (by omega)]
     omega
    rw [e3]
    refine yJ (by rfl) (by rfl) (by omega) (by omega) ?_
    rw [show IntKind.u32.wrap ((carry:Nat):Int)=((carry:Nat):Int) by rw [xH]; omega]
    refine go ?_
    refine wD (k:=i+l2.length) (by rfl) (by rfl) (by omega) (by omega) ?_
    refine go ?_
    rw [show arith .add .i64 ((i:Nat):Int) 1=((i+1:Nat):Int) by rw [xB,yH (by omega) (by omega)]; omega]
    refine l_n (by rfl) (by omega) ⟨i+1,_,rfl,rfl,rfl,by omega,by simp [j2],j3.set j4,?_,fun k hk => ?_⟩
    ·have v1:=sW p (i+l2.length) carry (by omega)
     rw [j6 _ (by omega),k5 _ (by omega)] at v1
     rw [xI (Nat.le_refl _)] at j5
     rw [yE,Nat.add_mul,←k4,Nat.mul_assoc]
     omega
    ·rw [wA (by omega),j6 _ (by omega)]
     exact k5 _ (by omega)
  ·simp [yA] at h
   have ei:i=l1.length:=by omega
   subst ei
   rw [xI (Nat.le_refl _)] at k4
   refine go ?_
   refine yV [3] (.cons (.c (wT out (by rfl) rfl (by simp) k2.symm (by rw [←k2]; exact List.take_of_length_le (by simp)))) (.cons (.c (.hf trivial)) .nil)) (wC _ (.imm out) k3 (by omega)) (fun u hu => ?_)
   obtain ⟨cs3,rfl,z3⟩:=hu
   obtain ⟨a0,a1,a2,rfl⟩:=z3.three
   refine go ?_
   rw [e1,e2,jJ,←k4]
   exact ZK.fz z3
end Go.Proofs.YtokckcnfojjpjaaGreat

namespace Go.Proofs.YtokckcnfojjpjaaGreat
open Go.RowKit
set_option maxRecDepth 20000
inductive IsW:List C→Int→Prop
 | mk {c:C} {l:List Nat} (minus:Bool) (hc:Wd c l) (hn:Norm l) (hm:minus=true→l≠[]):IsW [c,.bool minus] (amt minus (val l))
def WK (z:Int) (u:V):Prop:=∃ cs,u=.agg cs∧IsW cs z
theorem IsW.hf {cs:List C} {z:Int} (h:IsW cs z):HFL cs:=by
 cases h with
 | mk minus hc hn hm => exact ⟨hc.hf,trivial,trivial⟩
theorem IsW.two {cs:List C} {z:Int} (h:IsW cs z):∃ c l minus,cs=[c,.bool minus]∧Wd c l∧Norm l∧(minus=true→l≠[])∧z=amt minus (val l):=by
 cases h with
 | mk minus hc hn hm => exact ⟨_,_,minus,rfl,hc,hn,hm,rfl⟩
theorem WK.fz {z:Int} {cs:List C} {H:Hp} (h:IsW cs z):∃ d,FzV H (.agg cs) d∧WK z d:=⟨_,.agg (.hf h.hf),cs,rfl,h⟩
def uE (p:Prop) (u:V):Prop:=∃ b,u=.c (.bool b)∧(b=true↔p)
theorem uE.fz {p:Prop} {b:Bool} {H:Hp} (h:b=true↔p):∃ d,FzV H (.c (.bool b)) d∧uE p d:=⟨_,.c (.hf trivial),b,rfl,h⟩
theorem val_pos {l:List Nat} (h:Norm l) (h0:l≠[]):0<val l:=by
 have h1:0<l.length:=List.length_pos_iff.2 h0
 have:=norm_ge h h1
 have h2:0<4294967296 ^ (l.length - 1):=Nat.pow_pos (by decide)
 omega
attribute [local irreducible] yA semH semC qLen qNil qIad qSlc qIdx yU yL yY appX appI slcX awpF yP xE xopF xL qval lval seqQ xD xW xT xP cnd arith IntKind.wrap
theorem vM {c:C} {l:List Nat} (minus:Bool) (hc:Wd c l) (hn:Norm l):semC Tryz.prog n_ref01_signed [.c c,.c (.bool minus)] (WK (amt minus (val l))):=by
 refine yD ok_ref01_signed rfl (show HFVs [.c c,.c (.bool minus)] from ⟨hc.hf,trivial,trivial⟩) ?_
 cases minus
 ·refine go ?_
  exact WK.fz (.mk false hc hn (fun h => by cases h))
 ·refine go ?_
  cases hq:yA Cm.gtr (l.length:Int) 0
  ·simp [yA] at hq
   subst hq
   refine go ?_
   exact WK.fz (z:=amt true (val [])) (.mk (l:=[]) false hc hn (fun h => by cases h))
  ·simp [yA] at hq
   refine go ?_
   exact WK.fz (.mk true hc hn (fun _ e => by simp [e] at hq))
theorem gN {cs:List C} {z:Int} (hz:IsW cs z):semC Tryz.prog n_ref01_whole_neg [.agg cs] (WK (-z)):=by
 refine yD ok_ref01_whole_neg rfl (show HFVs [.agg cs] from ⟨hz.hf,trivial⟩) ?_
 obtain ⟨c,l,minus,rfl,hc,hn,hm,e⟩:=hz.two
 refine go ?_
 refine yB (vM (!minus) hc hn) (fun u hu => ?_)
 obtain ⟨ds,rfl,hd⟩:=hu
 obtain ⟨c',l',m',rfl,_⟩:=hd.two
 refine go ?_
 rw [e,show -amt minus (val l)=amt (!minus) (val l) by cases minus <;> simp [amt]]
 exact WK.fz hd
theorem wP {cs ds:List C} {x y:Int} {n:Nat} (hx:IsW cs x) (hy:IsW ds y) (sx:Sz n x) (sy:Sz n y) (hn:n≤1073741824):semC Tryz.prog n_ref01_whole_mul [.agg cs,.agg ds] (WK (x*y)):=by
 refine yD ok_ref01_whole_mul rfl (show HFVs [.agg cs,.agg ds] from ⟨hx.hf,hy.hf,trivial⟩) ?_
 unfold Sz at sx sy
 obtain ⟨c1,l1,m1,rfl,w1,o1,_,e1⟩:=hx.two
 obtain ⟨c2,l2,m2,rfl,w2,o2,_,e2⟩:=hy.two
 have hl1:l1.length≤n:=xY o1 (by rw [e1] at sx; rwa [xS] at sx)
 have hl2:l2.length≤n:=xY o2 (by rw [e2] at sy; rwa [xS] at sy)
 refine go ?_
 refine yK (ref01_times w1 w2 o1.1 o2.1 (by omega) (by omega)) (fun u hu => ?_)
 obtain ⟨c3,l3,rfl,w3,o3,v3⟩:=hu
 refine go ?_
 refine yK (vM _ w3 o3) (fun u hu => ?_)
 obtain ⟨fs,rfl,hf⟩:=hu
 obtain ⟨c',l',m',rfl,_⟩:=hf.two
 refine go ?_
 rw [e1,e2,jJ,←v3]
 exact WK.fz hf
theorem ref01_one:semC Tryz.prog n_ref01_one [] (WK 1):=by
 refine yD ok_ref01_one rfl (show HFVs [] from trivial) ?_
 refine go ?_
 refine ⟨_,.agg (.cons (wT [1] (by rfl) (by simp) (by simp) rfl rfl) (.cons (.hf trivial) .nil)),_,rfl,?_⟩
 exact .mk (l:=[1]) false (.imm [1]) (.one (by omega) (by omega)) (fun h => by cases h)
theorem qP {cs:List C} {z:Int} (hz:IsW cs z):semC Tryz.prog n_ref01_whole_isNought [.agg cs] (uE (z=0)):=by
 refine yD ok_ref01_whole_isNought rfl (show HFVs [.agg cs] from ⟨hz.hf,trivial⟩) ?_
 obtain ⟨c,l,minus,rfl,hc,hn,hm,e⟩:=hz.two
 refine go ?_
 refine uE.fz ?_
 simp only [yA,yG]
 constructor
 ·intro h
  have h1:l=[]:=List.length_eq_zero_iff.1 (by omega)
  rw [e,h1]
  cases minus <;> simp [amt,val]
 ·intro h
  by_cases h1:l=[]
  ·simp [h1]
  ·have:=val_pos hn h1
   rw [h] at e
   cases minus <;> simp [amt] at e <;> omega
end Go.Proofs.YtokckcnfojjpjaaGreat

namespace Go.Proofs.YtokckcnfojjpjaaGreat
open Go.RowKit
set_option maxRecDepth 20000
theorem len_one {l:List Nat} (h:l.length=1):val l=at0 l 0:=by
 match l,h with
 | [x],_ => simp [val,at0]
theorem val_one {l:List Nat} (hn:Norm l) (h:val l=1):l.length=1:=by
 have h1:=xY (n:=1) hn (by rw [h]; decide)
 rcases Nat.eq_zero_or_pos l.length with h0 | h0
 ·have:l=[]:=List.length_eq_zero_iff.1 h0
  subst this
  simp [val] at h
 ·omega
attribute [local irreducible] yA semH semC qLen qNil qIad qSlc qIdx yU yL yY appX appI slcX awpF yP xE xopF xL qval lval seqQ xD xW xT xP cnd arith IntKind.wrap
theorem pV {cs:List C} {z:Int} (hz:IsW cs z):semC Tryz.prog n_ref01_isOne [.agg cs] (uE (z=1)):=by
 refine yD ok_ref01_isOne rfl (show HFVs [.agg cs] from ⟨hz.hf,trivial⟩) ?_
 obtain ⟨c,l,minus,rfl,hc,hn,hm,e⟩:=hz.two
 have key:z=1→minus=false∧l.length=1∧at0 l 0=1:=by
  intro h
  rw [h] at e
  cases minus
  ·simp [amt] at e
   have h1:=val_one hn (by omega)
   exact ⟨rfl,h1,by rw [←len_one h1]; omega⟩
  ·simp [amt] at e
   omega
 refine go ?_
 cases hq:yA Cm.eql (l.length:Int) 1
 ·simp only [yA,yI] at hq
  refine go ?_
  exact uE.fz ⟨fun h => (by cases h),fun h => absurd (key h).2.1 (by omega)⟩
 ·simp only [yA,yG] at hq
  refine go ?_
  cases hq2:yA Cm.eql ((at0 l (0:Int).toNat:Nat):Int) 1
  ·simp only [yA,yI] at hq2
   refine go ?_
   exact uE.fz ⟨fun h => (by cases h),fun h => absurd (key h).2.2 (fun e => hq2 (by show ((at0 l 0:Nat):Int)=1; omega))⟩
  ·simp only [yA,yG] at hq2
   have h3:at0 l 0=1:=by
    have:((at0 l 0:Nat):Int)=1:=hq2
    omega
   refine go ?_
   refine uE.fz ⟨fun h => ?_,fun h => by rw [(key h).1]; rfl⟩
   cases minus
   ·rw [e,len_one (by omega),h3]
    rfl
   ·simp at h
theorem gF {v:Int} (h1:-9223372036854775808≤v) (h2:v<9223372036854775808):semC Tryz.prog n_ref01_ofInt [i64 v] (WK v):=by
 refine yD ok_ref01_ofInt rfl (show HFVs [i64 v] from ⟨trivial,trivial⟩) ?_
 have ht:=qQ (.imm [v.natAbs % 4294967296,v.natAbs / 4294967296]) (by simp)
 refine go ?_
 cases hq:yA Cm.lss v 0
 ·have hq0:=hq
  simp [yA] at hq
  refine go ?_
  rw [show IntKind.u64.wrap v=((v.natAbs:Nat):Int) by rw [xN]; omega,shrN,show IntKind.u32.wrap ((v.natAbs:Nat):Int)=((v.natAbs % 4294967296:Nat):Int) by rw [xH]; omega,show IntKind.u32.wrap ((v.natAbs / 4294967296:Nat):Int)=((v.natAbs / 4294967296:Nat):Int) by rw [xH]; omega]
  refine yV [1] (.cons (.c (wT [v.natAbs % 4294967296,v.natAbs / 4294967296] (by rfl) rfl (by simp) rfl rfl)) .nil) ht (fun u hu => ?_)
  obtain ⟨c',l',rfl,w1,p1,v1,t1⟩:=hu
  refine go ?_
  rw [hq0]
  have hno:Norm l':=⟨fun x hx => by have:=p1.subset hx; simp at this; omega,t1⟩
  rw [show v=amt false (val l') by rw [v1]; simp [amt,val]; omega]
  exact WK.fz (.mk false w1 hno (fun h => by cases h))
 ·have hq0:=hq
  simp [yA] at hq
  refine go ?_
  rw [show IntKind.u64.wrap (0 - IntKind.u64.wrap v)=((v.natAbs:Nat):Int) by rw [xN,xN]; omega,shrN,show IntKind.u32.wrap ((v.natAbs:Nat):Int)=((v.natAbs % 4294967296:Nat):Int) by rw [xH]; omega,show IntKind.u32.wrap ((v.natAbs / 4294967296:Nat):Int)=((v.natAbs / 4294967296:Nat):Int) by rw [xH]; omega]
  refine yV [1] (.cons (.c (wT [v.natAbs % 4294967296,v.natAbs / 4294967296] (by rfl) rfl (by simp) rfl rfl)) .nil) ht (fun u hu => ?_)
  obtain ⟨c',l',rfl,w1,p1,v1,t1⟩:=hu
  refine go ?_
  rw [hq0]
  have hno:Norm l':=⟨fun x hx => by have:=p1.subset hx; simp at this; omega,t1⟩
  have hv:val l'=v.natAbs:=by rw [v1]; simp [val]; omega
  rw [show v=amt true (val l') by rw [hv]; simp [amt]; omega]
  exact WK.fz (.mk true w1 hno (fun _ e => by rw [e] at hv; simp [val] at hv; omega))
end Go.Proofs.YtokckcnfojjpjaaGreat

namespace Go.Proofs.YtokckcnfojjpjaaGreat
open Go.RowKit
set_option maxRecDepth 20000
def bM (z:Int) (p:Prop) (u:V):Prop:=∃ r b,u=.tup [i64 r,.c (.bool b)]∧(b=true↔p)∧(b=true→r=z)
theorem bM.fz {z r:Int} {p:Prop} {b:Bool} {H:Hp} (h:b=true↔p) (h2:b=true→r=z):∃ d,FzV H (.tup [i64 r,.c (.bool b)]) d∧bM z p d :=
 ⟨_,.tup (.cons (.c (.hf trivial)) (.cons (.c (.hf trivial)) .nil)),r,b,rfl,h,h2⟩
attribute [local irreducible] yA semH semC qLen qNil qIad qSlc qIdx yU yL yY appX appI slcX awpF yP xE xopF xL qval lval seqQ xD xW xT xP cnd arith IntKind.wrap
theorem num_Z_Int {cs:List C} {z most:Int} (hz:IsZ cs z) (h0:0≤most) (h1:most<9223372036854775808):semC Tryz.prog n_num_Z_Int [.agg cs,i64 most] (bM z (-most≤z∧z≤most)):=by
 refine yD ok_num_Z_Int rfl (show HFVs [.agg cs,i64 most] from ⟨hz.hf,trivial,trivial⟩) ?_
 rcases hz.look with ⟨rfl,x1,x2⟩ | ⟨lx,nx,rfl,xn,xv,xe⟩
 ·refine go ?_
  cases hq:yA Cm.gtr z most
  ·simp [yA] at hq
   refine go ?_
   rw [show IntKind.i64.wrap (0 - most) = -most by rw [yH (by omega) (by omega)]; omega]
   cases hr:yA Cm.lss z (-most)
   ·simp [yA] at hr
    refine go ?_
    exact bM.fz ⟨fun _ => ⟨hr,hq⟩,fun _ => rfl⟩ (fun _ => rfl)
   ·simp [yA] at hr
    refine go ?_
    exact bM.fz ⟨fun h => (by cases h),fun h => absurd h.1 (by omega)⟩ (fun h => by cases h)
  ·simp [yA] at hq
   refine go ?_
   exact bM.fz ⟨fun h => (by cases h),fun h => absurd h.2 (by omega)⟩ (fun h => by cases h)
 ·refine go ?_
  refine bM.fz ⟨fun h => (by cases h),fun h => ?_⟩ (fun h => by cases h)
  exfalso
  rw [xe] at h
  cases nx <;> simp [amt] at h <;> omega
inductive IsRQ:List C→Int→Int→Prop
 | mk {n d:List C} {a b:Int} (hn:IsW n a) (hd:IsW d b):IsRQ (n++d) a (if b=0 then 1 else b)
theorem pW {n d:List C} {a b:Int} (hn:IsW n a) (hd:IsW d b):semC Tryz.prog n_ref01_Q_den [.agg (n++d)] (WK (if b=0 then 1 else b)):=by
 obtain ⟨c1,l1,m1,rfl,w1,o1,g1,e1⟩:=hn.two
 obtain ⟨c2,l2,m2,rfl,w2,o2,g2,e2⟩:=hd.two
 refine yD ok_ref01_Q_den rfl (show HFVs [.agg [c1,.bool m1,c2,.bool m2]] from ⟨⟨w1.hf,trivial,w2.hf,trivial,trivial⟩,trivial⟩) ?_
 refine go ?_
 refine yB (qP hd) (fun u hu => ?_)
 obtain ⟨z,rfl,hz⟩:=hu
 cases z
 ·refine go ?_
  have hb:¬ b=0:=fun h => by
   have:=hz.2 h
   cases this
  rw [if_neg hb]
  exact WK.fz hd
 ·refine go ?_
  refine yB ref01_one (fun u hu => ?_)
  obtain ⟨es,rfl,he⟩:=hu
  obtain ⟨c',l',m',rfl,_⟩:=he.two
  refine go ?_
  rw [if_pos (hz.1 rfl)]
  exact WK.fz he
end Go.Proofs.YtokckcnfojjpjaaGreat

namespace Go.Proofs.YtokckcnfojjpjaaGreat
open Go.RowKit
set_option maxRecDepth 20000
def wI (n d:Int):Prop:=1≤d∧d≤1000000000000 ∧ -1000000000000≤n∧n≤1000000000000∧Int.gcd n d=1
theorem bB {a b:Int}:Int.gcd b (a.tmod b)=Int.gcd a b:=by
 rw [Int.gcd_eq_natAbs_gcd_natAbs,Int.gcd_eq_natAbs_gcd_natAbs,Int.natAbs_tmod,Nat.gcd_comm a.natAbs,Nat.gcd_rec b.natAbs a.natAbs,Nat.gcd_comm]
theorem gY {a b:Int} (h:b≠0):(a.tmod b).natAbs<b.natAbs:=by
 rw [Int.natAbs_tmod]
 exact Nat.mod_lt _ (by omega)
theorem ar_rem {k:IntKind} {a b:Int}:arith .rem k a b=a.tmod b:=rfl
attribute [local irreducible] yA semH semC qLen qNil qIad qSlc qIdx yU yL yY appX appI slcX awpF yP xE xopF xL qval lval seqQ xD xW xT xP cnd arith IntKind.wrap
theorem nP (n d:Int):semC Tryz.prog n_num_Valid [.agg [.int .i64 n,.int .i64 d]] (uE (wI n d)):=by
 refine yD ok_num_Valid rfl (show HFVs [.agg [.int .i64 n,.int .i64 d]] from ⟨⟨trivial,trivial,trivial⟩,trivial⟩) ?_
 refine go ?_
 cases h1:yA Cm.lss d 1
 ·simp [yA] at h1
  refine go ?_
  cases h2:yA Cm.gtr d 1000000000000
  ·simp [yA] at h2
   refine go ?_
   cases h3:yA Cm.gtr n 1000000000000
   ·simp [yA] at h3
    refine go ?_
    cases h4:yA Cm.lss n (-1000000000000)
    ·simp [yA] at h4
     refine go ?_
     refine yR (fun m vs H => ∃ a b:Int,vs=[i64 a,i64 b]∧m=b.natAbs∧Int.gcd a b=Int.gcd n d) (by rfl) ⟨_,_,rfl,rfl,rfl⟩ ?_
     rintro m vs H ⟨a,b,rfl,rfl,hg⟩
     refine go ?_
     cases hq:yA Cm.neq b 0
     ·simp [yA] at hq
      subst hq
      rw [Int.gcd_zero_right] at hg
      refine go ?_
      cases h5:yA Cm.eql a 1
      ·simp [yA] at h5
       refine go ?_
       refine uE.fz ?_
       simp only [yA,yG]
       exact ⟨fun h => ⟨h1,h2,h4,h3,by rw [←hg,h]; rfl⟩,fun h => by
        have:=h.2.2.2.2
        omega⟩
      ·simp [yA] at h5
       refine go ?_
       exact uE.fz ⟨fun h => ⟨h1,h2,h4,h3,by rw [←hg,h5]; rfl⟩,fun _ => rfl⟩
     ·simp [yA] at hq
      refine go ?_
      refine q_ar (by rfl) (by rfl) (by simp [needs,hq]) ?_
      refine go ?_
      rw [ar_rem]
      exact l_n (by rfl) (gY hq) ⟨_,_,rfl,rfl,bB.trans hg⟩
    ·simp [yA] at h4
     refine go ?_
     exact uE.fz ⟨fun h => (by cases h),fun h => absurd h.2.2.1 (by omega)⟩
   ·simp [yA] at h3
    refine go ?_
    exact uE.fz ⟨fun h => (by cases h),fun h => absurd h.2.2.2.1 (by omega)⟩
  ·simp [yA] at h2
   refine go ?_
   exact uE.fz ⟨fun h => (by cases h),fun h => absurd h.2.1 (by omega)⟩
 ·simp [yA] at h1
  refine go ?_
  exact uE.fz ⟨fun h => (by cases h),fun h => absurd h.1 (by omega)⟩
theorem ref01_Is (n d:Int):semC Tryz.prog n_ref01_Is [.agg [.int .i64 n,.int .i64 d]] (uE (wI n d)):=by
 refine yD ok_ref01_Is rfl (show HFVs [.agg [.int .i64 n,.int .i64 d]] from ⟨⟨trivial,trivial,trivial⟩,trivial⟩) ?_
 refine go ?_
 cases h1:yA Cm.lss d 1
 ·simp [yA] at h1
  refine go ?_
  cases h2:yA Cm.gtr d 1000000000000
  ·simp [yA] at h2
   refine go ?_
   cases h4:yA Cm.lss n (-1000000000000)
   ·simp [yA] at h4
    refine go ?_
    cases h3:yA Cm.gtr n 1000000000000
    ·simp [yA] at h3
     refine go ?_
     cases h6:yA Cm.lss n 0
     ·simp [yA] at h6
      refine go ?_
      refine yR (fun m vs H => ∃ a b:Int,vs=[i64 a,i64 b]∧m=b.natAbs∧0≤a∧0≤b∧Int.gcd a b=Int.gcd n d) (by rfl) ⟨_,_,rfl,rfl,by omega,by omega,rfl⟩ ?_
      rintro m vs H ⟨a,b,rfl,rfl,p1,p2,hg⟩
      refine go ?_
      cases hq:yA Cm.gtr b 0
      ·simp [yA] at hq
       have hb:b=0:=by omega
       subst hb
       rw [Int.gcd_zero_right] at hg
       refine go ?_
       refine uE.fz ?_
       simp only [yA,yG]
       exact ⟨fun h => ⟨h1,h2,h4,h3,by rw [←hg,h]; rfl⟩,fun h => by
        have:=h.2.2.2.2
        omega⟩
      ·simp [yA] at hq
       refine go ?_
       refine q_ar (by rfl) (by rfl) (by simp [needs]; omega) ?_
       refine go ?_
       rw [ar_rem]
       have hp:0≤a.tmod b:=Int.tmod_nonneg _ p1
       exact l_n (by rfl) (gY (by omega)) ⟨_,_,rfl,rfl,p2,hp,bB.trans hg⟩
     ·simp [yA] at h6
      refine go ?_
      rw [show IntKind.i64.wrap (0 - n) = -n by rw [yH (by omega) (by omega)]; omega]
      refine yR (fun m vs H => ∃ a b:Int,vs=[i64 a,i64 b]∧m=b.natAbs∧0≤a∧0≤b∧Int.gcd a b=Int.gcd n d) (by rfl) ⟨_,_,rfl,rfl,by omega,by omega,Int.neg_gcd⟩ ?_
      rintro m vs H ⟨a,b,rfl,rfl,p1,p2,hg⟩
      refine go ?_
      cases hq:yA Cm.gtr b 0
      ·simp [yA] at hq
       have hb:b=0:=by omega
       subst hb
       rw [Int.gcd_zero_right] at hg
       refine go ?_
       refine uE.fz ?_
       simp only [yA,yG]
       exact ⟨fun h => ⟨h1,h2,h4,h3,by rw [←hg,h]; rfl⟩,fun h => by
        have:=h.2.2.2.2
        omega⟩
      ·simp [yA] at hq
       refine go ?_
       refine q_ar (by rfl) (by rfl) (by simp [needs]; omega) ?_
       refine go ?_
       rw [ar_rem]
       have hp:0≤a.tmod b:=Int.tmod_nonneg _ p1
       exact l_n (by rfl) (gY (by omega)) ⟨_,_,rfl,rfl,p2,hp,bB.trans hg⟩
    ·simp [yA] at h3
     refine go ?_
     exact uE.fz ⟨fun h => (by cases h),fun h => absurd h.2.2.2.1 (by omega)⟩
   ·simp [yA] at h4
    refine go ?_
    exact uE.fz ⟨fun h => (by cases h),fun h => absurd h.2.2.1 (by omega)⟩
  ·simp [yA] at h2
   refine go ?_
   exact uE.fz ⟨fun h => (by cases h),fun h => absurd h.2.1 (by omega)⟩
 ·simp [yA] at h1
  refine go ?_
  exact uE.fz ⟨fun h => (by cases h),fun h => absurd h.1 (by omega)⟩
end Go.Proofs.YtokckcnfojjpjaaGreat

namespace Go.Proofs.YtokckcnfojjpjaaGreat
open Go.RowKit
set_option maxRecDepth 20000
theorem or_comm_words {h b:Nat} (hh:h<4294967296) (hb:b<4294967296):arith .or .u64 (b:Int) ((h*4294967296:Nat):Int)=((b+4294967296*h:Nat):Int):=by
 have:=pK hh hb
 have e:arith .or .u64 (b:Int) ((h*4294967296:Nat):Int)=arith .or .u64 ((h*4294967296:Nat):Int) (b:Int):=by
  show IntKind.u64.wrap ((BitVec.ofInt 64 (b:Int) ||| BitVec.ofInt 64 ((h*4294967296:Nat):Int)).toNat:Int)=IntKind.u64.wrap ((BitVec.ofInt 64 ((h*4294967296:Nat):Int) ||| BitVec.ofInt 64 (b:Int)).toNat:Int)
  rw [BitVec.or_comm]
 rw [e,this]
 congr 1
 omega
theorem or_zero {b:Nat} (hb:b<4294967296):arith .or .u64 0 (b:Int)=(b:Int):=by
 have:=pK (h:=0) (by decide) hb
 simpa using this
theorem small_step {l:List Nat} {i:Nat} (ho:OkW l) (hl:l.length≤2) (hi:i<l.length) :
  arith .or .u64 ((val (l.take i):Nat):Int) (IntKind.u64.wrap (IntKind.u64.wrap ((at0 l i:Nat):Int)*2 ^ (min (arith .mul .u64 32 (IntKind.u64.wrap (i:Int))).toNat IntKind.u64.bits)))=((val (l.take (i+1)):Nat):Int)∧0≤arith .mul .u64 32 (IntKind.u64.wrap (i:Int)):=by
 have ga:=ho.get i
 rw [yE]
 have h2:i=0∨i=1:=by omega
 rcases h2 with rfl | rfl
 ·have e:arith .mul .u64 32 (IntKind.u64.wrap ((0:Nat):Int))=0:=by rw [ar_mul,xN,xN]; rfl
  rw [e]
  refine ⟨?_,by omega⟩
  have e2:(2:Int) ^ (min (0:Int).toNat IntKind.u64.bits)=1:=by decide
  rw [e2,xQ _ (by omega),Int.mul_one,xQ _ (by omega)]
  simp only [List.take_zero,val,Nat.pow_zero,Nat.one_mul,Nat.zero_add]
  exact or_zero ga
 ·have e:arith .mul .u64 32 (IntKind.u64.wrap ((1:Nat):Int))=32:=by rw [ar_mul,xN,xN]; rfl
  rw [e]
  refine ⟨?_,by omega⟩
  have hv:=vV (ho.take 1)
  have e3:(l.take 1).length=1:=by simp; omega
  rw [e3] at hv
  rw [shl32,xQ _ (by omega),show ((at0 l 1:Nat):Int)*4294967296=((at0 l 1*4294967296:Nat):Int) by omega,xQ _ (by omega),or_comm_words ga (by omega)]
attribute [local irreducible] yA semH semC qLen qNil qIad qSlc qIdx yU yL yY appX appI slcX awpF yP xE xopF xL qval lval seqQ xD xW xT xP cnd arith IntKind.wrap
theorem ref01_small {cs:List C} {z:Int} (hz:IsW cs z):semC Tryz.prog n_ref01_whole_small [.agg cs] (bM z (-9223372036854775808≤z∧z<9223372036854775808)):=by
 refine yD ok_ref01_whole_small rfl (show HFVs [.agg cs] from ⟨hz.hf,trivial⟩) ?_
 obtain ⟨c,l,minus,rfl,hc,hn,hm,e⟩:=hz.two
 refine go ?_
 cases hq:yA Cm.gtr (l.length:Int) 2
 ·simp [yA] at hq
  refine go ?_
  refine yR (fun m vs H => ∃ (i:Nat) (u:Int),vs=[.c (.ptr 0 0),.c (.int .u64 u),i64 (i:Int)]∧H=[.live ⟨[c,.bool minus],T_isoclineref01_whole,.rw⟩]∧m=l.length - i∧i≤l.length∧u=((val (l.take i):Nat):Int)) (by rfl) ⟨0,_,rfl,rfl,rfl,by omega,rfl⟩ ?_
  rintro m vs H ⟨i,u,rfl,rfl,rfl,k1,rfl⟩
  refine go ?_
  cases h:yA Cm.lss (i:Int) l.length
  ·simp [yA] at h
   have ei:i=l.length:=by omega
   subst ei
   rw [xI (Nat.le_refl _)]
   have hv:=val_two hn.1 (by omega)
   cases minus
   ·refine go ?_
    refine bM.fz ?_ ?_
    ·simp only [yA,yG]
     rw [e]
     simp only [amt,cond_false]
     omega
    ·simp only [yA,yG]
     intro h
     rw [yH (by omega) (by omega),e]
     rfl
   ·refine go ?_
    refine bM.fz ?_ ?_
    ·simp only [yA,yG]
     rw [e]
     simp only [amt,cond_true]
     omega
    ·simp only [yA,yG]
     intro h
     rw [wrap_i64',xN,e]
     simp only [amt,cond_true]
     split <;> omega
  ·simp [yA] at h
   refine go ?_
   obtain ⟨s1,s2⟩:=small_step hn.1 (by omega) h
   refine tI (by rfl) (by rfl) s2 ?_
   refine go ?_
   rw [show at0 l ((i:Nat):Int).toNat=at0 l i by rw [Int.toNat_natCast],s1,show arith .add .i64 ((i:Nat):Int) 1=((i+1:Nat):Int) by rw [xB,yH (by omega) (by omega)]; omega]
   exact l_n (by rfl) (by omega) ⟨i+1,_,rfl,rfl,rfl,by omega,rfl⟩
 ·simp [yA] at hq
  refine go ?_
  have hg:=val_ge hn (by omega)
  refine bM.fz ⟨fun h => (by cases h),fun h => ?_⟩ (fun h => by cases h)
  exfalso
  rw [e] at h
  cases minus <;> simp [amt] at h <;> omega
end Go.Proofs.YtokckcnfojjpjaaGreat

namespace Go.Proofs.YtokckcnfojjpjaaGreat
open Go.RowKit
set_option maxRecDepth 20000
theorem len8_spec (b:Nat) (h:b<256):b<2 ^ ((Lib.len8tab[b]?).getD 0).toNat∧(0<((Lib.len8tab[b]?).getD 0).toNat→2 ^ (((Lib.len8tab[b]?).getD 0).toNat - 1)≤b)∧((Lib.len8tab[b]?).getD 0).toNat≤8:=by
 have key:∀ b:Fin 256,b.val<2 ^ ((Lib.len8tab[b.val]?).getD 0).toNat∧(0<((Lib.len8tab[b.val]?).getD 0).toNat→2 ^ (((Lib.len8tab[b.val]?).getD 0).toNat - 1)≤b.val)∧((Lib.len8tab[b.val]?).getD 0).toNat≤8:=by decide +kernel
 exact key ⟨b,h⟩
def tb (b:Nat):Nat:=((Lib.len8tab[b]?).getD 0).toNat
theorem tb_eq (b:Nat):((Lib.len8tab[b]?).getD 0).toNat=tb b:=rfl
def LenK (x:Nat) (u:V):Prop:=∃ r:Nat,u=i64 r∧x<2 ^ r∧(0<x→0<r∧2 ^ (r - 1)≤x)∧r≤32
theorem len_shift {x k:Nat} (hk:k≤24) (h:x / 2 ^ k<256) (h0:k=0∨0<x / 2 ^ k) :
  ∃ r:Nat,r=k+tb (x / 2 ^ k)∧x<2 ^ r∧(0<x→0<r∧2 ^ (r - 1)≤x)∧r≤32:=by
 obtain ⟨h1,h2,h3⟩:=len8_spec _ h
 simp only [tb_eq] at h1 h2 h3
 generalize tb (x / 2 ^ k)=t at h1 h2 h3 ⊢
 refine ⟨k+t,rfl,?_,fun hx => ?_,by omega⟩
 ·rw [Nat.pow_add,Nat.mul_comm]
  exact (Nat.div_lt_iff_lt_mul (Nat.pow_pos (by decide))).1 h1
 ·have ht:0<t:=by
   rcases Nat.eq_zero_or_pos t with e | e
   ·exfalso
    rw [e,Nat.pow_zero] at h1
    rcases h0 with e | e
    ·subst e
     rw [Nat.pow_zero,Nat.div_one] at h1
     omega
    ·exact Nat.lt_irrefl 0 (Nat.lt_of_lt_of_le e (Nat.le_of_lt_succ h1))
   ·exact e
  refine ⟨by omega,?_⟩
  have h4:=h2 ht
  have e:k+t - 1=(t - 1)+k:=by omega
  rw [e,Nat.pow_add]
  exact (Nat.le_div_iff_mul_le (Nat.pow_pos (by decide))).1 h4
theorem wrap_u8 (n:Int):IntKind.u8.wrap n=n % 256:=by simp [IntKind.wrap,IntKind.bits,IntKind.signed]
theorem shr16 (a:Nat):((a:Nat):Int).fdiv (2 ^ (min (16:Int).toNat IntKind.u32.bits))=((a / 65536:Nat):Int):=by
 rw [show (2:Int) ^ (min (16:Int).toNat IntKind.u32.bits)=65536 by decide,Int.fdiv_eq_ediv_of_nonneg _ (by decide)]
 omega
theorem shr8 (a:Nat):((a:Nat):Int).fdiv (2 ^ (min (8:Int).toNat IntKind.u32.bits))=((a / 256:Nat):Int):=by
 rw [show (2:Int) ^ (min (8:Int).toNat IntKind.u32.bits)=256 by decide,Int.fdiv_eq_ediv_of_nonneg _ (by decide)]
 omega
attribute [local irreducible] yA semH semC qLen qNil qIad qSlc qIdx yU yL yY appX appI slcX awpF yP xE xopF xL qval lval seqQ xD xW xT xP cnd arith IntKind.wrap
theorem bits_Len32 {x:Nat} (hx:x<4294967296):semC Tryz.prog n_bits_Len32 [.c (.int .u32 (x:Int))] (LenK x):=by
 refine yD ok_bits_Len32 rfl (show HFVs [.c (.int .u32 (x:Int))] from ⟨trivial,trivial⟩) ?_
 refine go ?_
 cases h1:yA Cm.geq (x:Int) 65536
 ·simp only [yA,yI] at h1
  refine go ?_
  cases h2:yA Cm.geq (x:Int) 256
  ·simp only [yA,yI] at h2
   refine go ?_
   rw [show IntKind.u8.wrap ((x:Nat):Int)=((x / 2 ^ 0:Nat):Int) by rw [wrap_u8]; omega]
   refine q_idxS (s:=Lib.len8tab) (by rfl) (by rfl) (by omega) (by rw [Lib.len8tab_size]; omega) ?_
   refine go ?_
   obtain ⟨r,hr,p1,p2,p3⟩:=len_shift (x:=x) (k:=0) (by omega) (by omega) (Or.inl rfl)
   rw [Int.toNat_natCast,tb_eq,show IntKind.i64.wrap ((tb (x / 2 ^ 0):Nat):Int)=((tb (x / 2 ^ 0):Nat):Int) by rw [yH (by omega) (by omega)],show arith .add .i64 0 ((tb (x / 2 ^ 0):Nat):Int)=((r:Nat):Int) by rw [xB,yH (by omega) (by omega),hr]; omega]
   exact ⟨_,.c (.hf trivial),r,rfl,p1,p2,p3⟩
  ·simp only [yA,yG] at h2
   refine go ?_
   rw [shr8]
   refine go ?_
   rw [show IntKind.u8.wrap ((x / 256:Nat):Int)=((x / 2 ^ 8:Nat):Int) by rw [wrap_u8]; omega]
   refine q_idxS (s:=Lib.len8tab) (by rfl) (by rfl) (by omega) (by rw [Lib.len8tab_size]; omega) ?_
   refine go ?_
   obtain ⟨r,hr,p1,p2,p3⟩:=len_shift (x:=x) (k:=8) (by omega) (by omega) (Or.inr (by omega))
   rw [Int.toNat_natCast,tb_eq,show IntKind.i64.wrap ((tb (x / 2 ^ 8):Nat):Int)=((tb (x / 2 ^ 8):Nat):Int) by rw [yH (by omega) (by omega)],show arith .add .i64 0 8=8 by rw [xB,yH (by omega) (by omega)]; rfl,show arith .add .i64 8 ((tb (x / 2 ^ 8):Nat):Int)=((r:Nat):Int) by rw [xB,yH (by omega) (by omega),hr]; omega]
   exact ⟨_,.c (.hf trivial),r,rfl,p1,p2,p3⟩
 ·simp only [yA,yG] at h1
  refine go ?_
  rw [shr16]
  cases h2:yA Cm.geq ((x / 65536:Nat):Int) 256
  ·simp only [yA,yI] at h2
   refine go ?_
   rw [show IntKind.u8.wrap ((x / 65536:Nat):Int)=((x / 2 ^ 16:Nat):Int) by rw [wrap_u8]; omega]
   refine q_idxS (s:=Lib.len8tab) (by rfl) (by rfl) (by omega) (by rw [Lib.len8tab_size]; omega) ?_
   refine go ?_
   obtain ⟨r,hr,p1,p2,p3⟩:=len_shift (x:=x) (k:=16) (by omega) (by omega) (Or.inr (by omega))
   rw [Int.toNat_natCast,tb_eq,show IntKind.i64.wrap ((tb (x / 2 ^ 16):Nat):Int)=((tb (x / 2 ^ 16):Nat):Int) by rw [yH (by omega) (by omega)],show arith .add .i64 16 ((tb (x / 2 ^ 16):Nat):Int)=((r:Nat):Int) by rw [xB,yH (by omega) (by omega),hr]; omega]
   exact ⟨_,.c (.hf trivial),r,rfl,p1,p2,p3⟩
  ·simp only [yA,yG] at h2
   refine go ?_
   rw [shr8]
   refine go ?_
   rw [show IntKind.u8.wrap ((x / 65536 / 256:Nat):Int)=((x / 2 ^ 24:Nat):Int) by rw [wrap_u8]; omega]
   refine q_idxS (s:=Lib.len8tab) (by rfl) (by rfl) (by omega) (by rw [Lib.len8tab_size]; omega) ?_
   refine go ?_
   obtain ⟨r,hr,p1,p2,p3⟩:=len_shift (x:=x) (k:=24) (by omega) (by omega) (Or.inr (by omega))
   rw [Int.toNat_natCast,tb_eq,show IntKind.i64.wrap ((tb (x / 2 ^ 24):Nat):Int)=((tb (x / 2 ^ 24):Nat):Int) by rw [yH (by omega) (by omega)],show arith .add .i64 16 8=24 by rw [xB,yH (by omega) (by omega)]; rfl,show arith .add .i64 24 ((tb (x / 2 ^ 24):Nat):Int)=((r:Nat):Int) by rw [xB,yH (by omega) (by omega),hr]; omega]
   exact ⟨_,.c (.hf trivial),r,rfl,p1,p2,p3⟩
def LzK (x:Nat) (u:V):Prop:=∃ s:Nat,u=i64 s∧s≤31∧2147483648≤x*2 ^ s∧x*2 ^ s<4294967296
theorem gS {x:Nat} (hx:x<4294967296) (h0:0<x):semC Tryz.prog n_bits_LeadingZeros32 [.c (.int .u32 (x:Int))] (LzK x):=by
 refine yD ok_bits_LeadingZeros32 rfl (show HFVs [.c (.int .u32 (x:Int))] from ⟨trivial,trivial⟩) ?_
 refine go ?_
 refine yB (bits_Len32 hx) (fun u hu => ?_)
 obtain ⟨r,rfl,p1,p2,p3⟩:=hu
 obtain ⟨p4,p5⟩:=p2 h0
 refine go ?_
 rw [show arith .sub .i64 32 ((r:Nat):Int)=((32 - r:Nat):Int) by rw [wY,yH (by omega) (by omega)]; omega]
 refine ⟨_,.c (.hf trivial),32 - r,rfl,by omega,?_,?_⟩
 ·have h1:=Nat.mul_le_mul_right (2 ^ (32 - r)) p5
  rw [←Nat.pow_add,show r - 1+(32 - r)=31 by omega] at h1
  exact h1
 ·have h1:=Nat.mul_lt_mul_of_pos_right p1 (Nat.pow_pos (n:=32 - r) (show 0<2 by decide))
  rw [←Nat.pow_add,show r+(32 - r)=32 by omega] at h1
  exact h1
end Go.Proofs.YtokckcnfojjpjaaGreat

namespace Go.Proofs.YtokckcnfojjpjaaGreat
open Go.RowKit
set_option maxRecDepth 20000
theorem or_u32 {lo m n:Nat} (hn:n≤31) (hlo:lo<2 ^ n) (hm:m*2 ^ n<4294967296):arith .or .u32 (lo:Int) ((m*2 ^ n:Nat):Int)=((lo+m*2 ^ n:Nat):Int):=by
 have h31:2 ^ n≤2147483648:=by
  have:=Nat.pow_le_pow_right (n:=2) (by decide) hn
  simpa using this
 have hsum:lo+m*2 ^ n<4294967296:=by
  have e:lo+m*2 ^ n=(m <<< n) ||| lo:=by
   rw [←Nat.shiftLeft_add_eq_or_of_lt hlo,Nat.shiftLeft_eq]
   omega
  rw [e]
  exact Nat.or_lt_two_pow (n:=32) (by rw [Nat.shiftLeft_eq]; exact hm) (by omega)
 generalize hp:m*2 ^ n=p at hm hsum
 have e:(BitVec.ofInt 32 (lo:Int) ||| BitVec.ofInt 32 (p:Int)).toNat=lo+p:=by
  rw [BitVec.toNat_or,BitVec.toNat_ofInt,BitVec.toNat_ofInt]
  have e1:((lo:Int) % ((2 ^ 32:Nat):Int)).toNat=lo:=by omega
  have e2:((p:Int) % ((2 ^ 32:Nat):Int)).toNat=p:=by omega
  rw [e1,e2,Nat.or_comm,←hp,←Nat.shiftLeft_eq,←Nat.shiftLeft_add_eq_or_of_lt hlo]
  omega
 show IntKind.u32.wrap ((BitVec.ofInt 32 (lo:Int) ||| BitVec.ofInt 32 (p:Int)).toNat:Int)=_
 rw [e,xH]
 omega
theorem shl_parts {x n:Nat} (hn:n≤31) (hx:x<4294967296):∃ m,x*2 ^ n % 4294967296=m*2 ^ n∧x*2 ^ n / 4294967296<2 ^ n∧x*2 ^ n<18446744073709551616:=by
 have e:(4294967296:Nat)=2 ^ (32 - n)*2 ^ n:=by
  rw [←Nat.pow_add,show 32 - n+n=32 by omega]
 have hp:0<2 ^ n:=Nat.pow_pos (by decide)
 have h31:2 ^ n≤2147483648:=by
  have:=Nat.pow_le_pow_right (n:=2) (by decide) hn
  simpa using this
 refine ⟨x % 2 ^ (32 - n),?_,?_,?_⟩
 ·rw [e,Nat.mul_mod_mul_right]
 ·rw [Nat.div_lt_iff_lt_mul (by decide),Nat.mul_comm]
  exact Nat.mul_lt_mul_of_pos_left hx hp
 ·have:=Nat.mul_le_mul (Nat.le_of_lt hx) h31
  omega
theorem yM (H:Hp) (s:Slot):(H++[s])[H.length]?=some s:=by simp
theorem qN (H:Hp) (s t:Slot):(H++[s]).set H.length t=H++[t]:=by simp
attribute [local irreducible] yA semH semC qLen qNil qIad qSlc qIdx yU yL yY appX appI slcX awpF yP xE xopF xL qval lval seqQ xD xW xT xP cnd arith IntKind.wrap
theorem ref01_shifted {c:C} {a:List Nat} {n:Nat} (hc:Wd c a) (ha:OkW a) (hn:n≤31) (hl:a.length<2147483648) (H:Hp) {K:V→Hp→Prop}
  (hK:∀ out,out.length=a.length+1→OkW out→val out=val a*2 ^ n→K (.c (.sl H.length 0 (a.length+1) (some (a.length+1)) 1)) (H++[.live ⟨out.map W,yT,.rw⟩])) :
  semH Tryz.prog n_ref01_shifted [.c c,.c (.int .u64 (n:Int))] H K:=by
 refine pB ok_ref01_shifted rfl ?_
 refine go ?_
 have e:arith .add .i64 (a.length:Int) 1=((a.length+1:Nat):Int):=by
  rw [xB,yH (by omega) (by omega)]
  omega
 rw [e]
 refine wX (by rfl) (by rfl) ⟨by omega,by omega,by omega,by omega⟩ ?_
 rw [Int.toNat_natCast,zeros]
 refine go ?_
 refine yR (fun m vs H' => ∃ (i:Nat) (out:List Nat),vs=[.c c,.c (.int .u64 (n:Int)),.c (.sl H.length 0 (a.length+1) (some (a.length+1)) 1),i64 (i:Int)]∧H'=H++[.live ⟨out.map W,yT,.rw⟩]∧m=a.length - i∧i≤a.length∧out.length=a.length+1∧OkW out∧val out=val (a.take i)*2 ^ n∧at0 out i<2 ^ n∧∀ k,i<k→at0 out k=0) (by rfl) ⟨0,_,rfl,rfl,rfl,by omega,by simp,fun x hx => by simp at hx; omega,by simp [val,sC],by rw [uV]; exact Nat.pow_pos (by decide),fun k _ => uV _ k⟩ ?_
 rintro m vs H' ⟨i,out,rfl,rfl,rfl,k1,k2,k3,k4,k5,k6⟩
 refine go ?_
 cases h:yA Cm.lss (i:Int) a.length
 ·simp [yA] at h
  refine go ?_
  have ei:i=a.length:=by omega
  subst ei
  rw [xI (Nat.le_refl _)] at k4
  exact hK out k2 k3 k4
 ·simp [yA] at h
  refine go ?_
  have gx:=ha.get i
  obtain ⟨m,q1,q2,q3⟩:=shl_parts hn gx
  have h31:2 ^ n≤2147483648:=by
   have:=Nat.pow_le_pow_right (n:=2) (by decide) hn
   simpa using this
  rw [show IntKind.u64.wrap (IntKind.u64.wrap ((at0 a ((i:Nat):Int).toNat:Nat):Int)*2 ^ min ((n:Nat):Int).toNat IntKind.u64.bits)=((at0 a i*2 ^ n:Nat):Int) by
   rw [Int.toNat_natCast,Int.toNat_natCast,xQ _ (by omega),show min n IntKind.u64.bits=n from Nat.min_eq_left (by show n≤64; omega),show ((at0 a i:Nat):Int)*2 ^ n=((at0 a i*2 ^ n:Nat):Int) by simp,xQ _ q3]]
  refine yJ (by rfl) (by rfl) (by omega) (by omega) ?_
  refine go ?_
  refine wS (k:=i) (yM _ _) (by omega) (by omega) ?_
  refine go ?_
  rw [show IntKind.u32.wrap ((at0 a i*2 ^ n:Nat):Int)=((m*2 ^ n:Nat):Int) by rw [xH,←q1]; omega,or_u32 hn k5 (by omega)]
  refine yJ (by rfl) (by rfl) (by omega) (by omega) ?_
  refine go ?_
  refine wD (k:=i) (yM _ _) (by rfl) (by omega) (by omega) ?_
  rw [qN]
  refine go ?_
  have e3:arith .add .i64 ((i:Nat):Int) 1=((i+1:Nat):Int):=by
   rw [xB,yH (by omega) (by omega)]
   omega
  rw [e3,shrN,show IntKind.u32.wrap ((at0 a i*2 ^ n / 4294967296:Nat):Int)=((at0 a i*2 ^ n / 4294967296:Nat):Int) by rw [xH]; omega]
  refine yJ (by rfl) (by rfl) (by omega) (by omega) ?_
  refine go ?_
  refine wD (k:=i+1) (yM _ _) (by rfl) (by omega) (by simp; omega) ?_
  rw [qN]
  refine go ?_
  rw [e3]
  have hw:at0 out i+m*2 ^ n<4294967296:=by
   have e5:at0 out i+m*2 ^ n=(m <<< n) ||| at0 out i:=by
    rw [←Nat.shiftLeft_add_eq_or_of_lt k5,Nat.shiftLeft_eq]
    omega
   rw [e5]
   exact Nat.or_lt_two_pow (n:=32) (by rw [Nat.shiftLeft_eq]; omega) (by omega)
  refine l_n (by rfl) (by omega) ⟨i+1,_,rfl,rfl,rfl,by omega,by simp [k2],(k3.set hw).set (by omega),?_,?_,fun k hk => ?_⟩
  ·have v1:=sW out i (at0 out i+m*2 ^ n) (by omega)
   have v2:=sW (out.set i (at0 out i+m*2 ^ n)) (i+1) (at0 a i*2 ^ n / 4294967296) (by simp; omega)
   rw [wA (by omega),k6 (i+1) (by omega),Nat.mul_zero,Nat.add_zero] at v2
   rw [v2,yE,Nat.add_mul,←k4]
   rw [Nat.mul_add] at v1
   have v3:4294967296 ^ i*(m*2 ^ n)+4294967296 ^ (i+1)*(at0 a i*2 ^ n / 4294967296)=4294967296 ^ i*at0 a i*2 ^ n:=by
    rw [←q1,Nat.pow_succ,Nat.mul_assoc,←Nat.mul_add,Nat.mod_add_div,Nat.mul_assoc]
   omega
  ·have:at0 ((out.set i (at0 out i+m*2 ^ n)).set (i+1) (at0 a i*2 ^ n / 4294967296)) (i+1)=at0 a i*2 ^ n / 4294967296:=by
    unfold at0
    rw [List.getD_eq_getElem?_getD,List.getElem?_set_self (by simp; omega)]
    rfl
   rw [this]
   exact q2
  ·rw [wA (by omega),wA (by omega)]
   exact k6 k (by omega)
end Go.Proofs.YtokckcnfojjpjaaGreat

namespace Go.Proofs.YtokckcnfojjpjaaGreat
open Go.RowKit
set_option maxRecDepth 20000
theorem slc_sl {e:Env} {x:Option V} {lo hi:Option AO} {b off n:Nat} {co:Option Nat} {l h:Int} {K:V→Prop} (hx:x=some (.c (.sl b off n co 1))) (h1:bnd e 0 lo=some l) (h2:bnd e n hi=some h) (h3:0≤l) (h4:l≤h) (h5:h≤n)
  (k:K (.c (.sl b (off+l.toNat*1) (h.toNat - l.toNat) (co.map (· - l.toNat)) 1))):qSlc e 1 x lo hi none K:=by
 subst hx
 simp only [qSlc,h1,h2]
 exact xO (by simp; omega) k
attribute [local irreducible] yA semH semC qLen qNil qIad qSlc qIdx yU yL yY appX appI slcX awpF yP xE xopF xL qval lval seqQ xD xW xT xP cnd arith IntKind.wrap
theorem ref01_trim_box {H:Hp} {b:Nat} {out:List Nat} {el:TypeId} {kd:BK} {co:Option Nat} {K:V→Hp→Prop} (hb:H[b]?=some (.live ⟨out.map W,el,kd⟩)) (hl:out.length<4611686018427387904)
  (hK:∀ k co',k≤out.length→val (out.take k)=val out→(k≠0→at0 out (k - 1)≠0)→K (.c (.sl b 0 k co' 1)) H):semH Tryz.prog n_ref01_trim [.c (.sl b 0 out.length co 1)] H K:=by
 refine pB ok_ref01_trim rfl ?_
 refine go ?_
 refine yR (fun m vs H' => ∃ k co',vs=[.c (.sl b 0 k co' 1)]∧H'=H∧m=k∧k≤out.length∧val (out.take k)=val out) (by rfl) ⟨_,_,rfl,rfl,rfl,Nat.le_refl _,xI (Nat.le_refl _)⟩ ?_
 rintro m vs H' ⟨k,co',rfl,rfl,rfl,k1,k2⟩
 refine go ?_
 cases hq:yA Cm.gtr (m:Int) 0
 ·simp [yA] at hq
  refine go ?_
  exact hK m co' k1 k2 (fun h => absurd hq h)
 ·simp [yA] at hq
  refine go ?_
  have e:arith .sub .i64 (m:Int) 1=((m - 1:Nat):Int):=by
   rw [wY,yH (by omega) (by omega)]
   omega
  rw [e]
  refine yJ (by rfl) (by rfl) (by omega) (by omega) ?_
  refine go ?_
  refine wS (k:=m - 1) hb (by omega) (by omega) ?_
  refine go ?_
  cases h:yA Cm.eql ((at0 out (m - 1):Nat):Int) 0
  ·simp only [yA,yI] at h
   refine go ?_
   exact hK m co' k1 k2 (fun _ => by omega)
  ·simp only [yA,yG] at h
   refine go ?_
   refine slc_sl (by rfl) (by rfl) (by rfl) (by omega) (by rw [e]; omega) (by rw [e]; omega) ?_
   refine go ?_
   rw [e]
   refine l_n (by rfl) ?_ ⟨_,_,rfl,rfl,rfl,?_,?_⟩
   ·simp; omega
   ·simp; omega
   ·have hv:=yE out (m - 1)
    rw [show m - 1+1=m by omega,show at0 out (m - 1)=0 by omega] at hv
    simp
    omega
end Go.Proofs.YtokckcnfojjpjaaGreat

namespace Go.Proofs.YtokckcnfojjpjaaGreat
section
variable {P X Y head x2 xl top next yl q rest:Nat}
theorem est_round (hP:0<P) (hX:X=(head*4294967296+x2)*P+xl) (hxl:xl<P) (hY:Y=(top*4294967296+next)*P+yl) (hq:q*top+rest=head) (ht:q*next > rest*4294967296+x2):X<q*Y:=by
 have h1:q*(top*4294967296+next)=(q*top)*4294967296+q*next:=by rw [Nat.mul_add,Nat.mul_assoc]
 have h2:head*4294967296+x2+1≤q*(top*4294967296+next):=by
  rw [h1,←hq,Nat.add_mul]
  omega
 have h3:=Nat.mul_le_mul_right P h2
 have h4:q*Y=q*(top*4294967296+next)*P+q*yl:=by rw [hY,Nat.mul_add,Nat.mul_assoc]
 rw [Nat.add_mul,Nat.one_mul] at h3
 rw [hX,h4]
 omega
theorem est_end (hP:0<P) (hX:X=(head*4294967296+x2)*P+xl) (hY:Y=(top*4294967296+next)*P+yl) (hyl:yl<P) (htop:1≤top) (hq:q*top+rest=head) (hqB:q≤4294967296) (h:q*next≤rest*4294967296+x2):q*Y≤X+Y:=by
 have h1:q*(top*4294967296+next)=(q*top)*4294967296+q*next:=by rw [Nat.mul_add,Nat.mul_assoc]
 have h2:q*(top*4294967296+next)≤head*4294967296+x2:=by
  rw [h1,←hq,Nat.add_mul]
  omega
 have h3:=Nat.mul_le_mul_right P h2
 have h4:q*Y=q*(top*4294967296+next)*P+q*yl:=by rw [hY,Nat.mul_add,Nat.mul_assoc]
 have h5:q*yl≤4294967296*P:=Nat.mul_le_mul hqB (Nat.le_of_lt hyl)
 have h6:4294967296*P≤Y:=by
  rw [hY]
  have:4294967296*P≤(top*4294967296+next)*P:=Nat.mul_le_mul_right P (by omega)
  omega
 rw [h4,hX]
 omega
theorem est_over (hP:0<P) (hX:X=(head*4294967296+x2)*P+xl) (hY:Y=(top*4294967296+next)*P+yl) (hyl:yl<P) (hn:next<4294967296) (hq:q*top+rest=head) (hqB:q<4294967296) (h:4294967296≤rest):q*Y≤X:=by
 have h0:Y≤(top+1)*4294967296*P:=by
  rw [hY]
  have h1:(top*4294967296+next+1)*P≤(top+1)*4294967296*P:=Nat.mul_le_mul_right P (by omega)
  rw [Nat.add_mul _ 1,Nat.one_mul] at h1
  omega
 have h1:=Nat.mul_le_mul_left q h0
 have h2:q*((top+1)*4294967296*P)=(q*top+q)*4294967296*P:=by
  rw [←Nat.mul_assoc,←Nat.mul_assoc,Nat.mul_add,Nat.mul_one]
 have h3:(q*top+q)*4294967296*P≤(head*4294967296+x2)*P:=Nat.mul_le_mul_right P (by omega)
 rw [hX]
 omega
theorem est_start {Q:Nat} (hP:0<P) (hX:X=(head*4294967296+x2)*P+xl) (hx2:x2<4294967296) (hxl:xl<P) (hY:Y=(top*4294967296+next)*P+yl) (hQ:Q*Y≤X):Q*top≤head:=by
 rcases Nat.lt_or_ge head (Q*top) with h | h
 ·exfalso
  have h1:(head+1)*4294967296*P≤Q*top*4294967296*P:=Nat.mul_le_mul_right P (Nat.mul_le_mul_right _ h)
  have h2:Q*(top*4294967296*P)≤Q*Y:=Nat.mul_le_mul_left Q (Nat.le_trans (Nat.mul_le_mul_right P (Nat.le_add_right _ next)) (by rw [hY]; exact Nat.le_add_right _ _))
  have h3:Q*(top*4294967296*P)=Q*top*4294967296*P:=by rw [←Nat.mul_assoc,←Nat.mul_assoc]
  have h4:(head*4294967296+x2+1)*P≤(head+1)*4294967296*P:=Nat.mul_le_mul_right P (by omega)
  rw [Nat.add_mul _ 1,Nat.one_mul] at h4
  omega
 ·exact h
end
end Go.Proofs.YtokckcnfojjpjaaGreat

namespace Go.Proofs.YtokckcnfojjpjaaGreat
open Go.RowKit
theorem at0_app {a b:List Nat} {i:Nat} (h:i<a.length):at0 (a++b) i=at0 a i:=by
 simp [at0,List.getElem?_append_left h]
theorem at0_mid {pre cur post:List Nat} {i:Nat} (h:i<cur.length):at0 (pre++cur++post) (pre.length+i)=at0 cur i:=by
 rw [at0_app (by simp; omega)]
 simp [at0,List.getElem?_append_right]
theorem set_mid {pre cur post:List Nat} {i w:Nat} (h:i<cur.length):(pre++cur++post).set (pre.length+i) w=pre++cur.set i w++post:=by
 rw [List.append_assoc,List.set_append_right _ _ (by omega),show pre.length+i - pre.length=i by omega,List.set_append_left _ _ h,List.append_assoc]
theorem tD {s:Option Slot} {size off i:Nat} {pre cur post:List Nat} {el:TypeId} {kd:BK} {K:V→Prop} (h:s=some (.live ⟨(pre++cur++post).map W,el,kd⟩)) (ho:off=pre.length+i) (hi:i<cur.length) (kk:K (.c (.int .u32 (at0 cur i:Nat)))):yU s false size off K:=by
 refine wS h ho (by simp; omega) ?_
 rw [at0_mid hi]
 exact kk
theorem sP {s:Option Slot} {b off i w:Nat} {pre cur post:List Nat} {el:TypeId} {ds:Option (List C)} {K:Nat→Slot→Prop} (h:s=some (.live ⟨(pre++cur++post).map W,el,.rw⟩)) (h2:ds=some [.int .u32 (w:Nat)]) (ho:off=pre.length+i) (hi:i<cur.length) (kk:K b (.live ⟨(pre++cur.set i w++post).map W,el,.rw⟩)):yY s b 1 off ds K:=by
 refine wD h h2 ho (by simp; omega) ?_
 rw [set_mid hi]
 exact kk
theorem qL {H:Hp} {b:Nat} {s:Slot} (h:b<H.length):(H.set b s)[b]?=some s:=by
 simp [h]
theorem mJ {H:Hp} {b c:Nat} {s:Slot} (h:b≠c):(H.set b s)[c]?=H[c]?:=by
 simp [List.getElem?_set_ne h]
theorem set_same {H:Hp} {b:Nat} {s:Slot} (h:H[b]?=some s):H.set b s=H:=by
 obtain ⟨h1,h2⟩:=List.getElem?_eq_some_iff.1 h
 rw [←h2,List.set_getElem_self]
theorem xF {l:List Nat} {i w:Nat} (h:i<l.length):val ((l.set i w).take (i+1))=val (l.take i)+4294967296 ^ i*w:=by
 rw [yE]
 have e:at0 (l.set i w) i=w:=by simp [at0,h]
 rw [e,List.take_set_of_le (Nat.le_refl i)]
theorem sub_u64 {x s bo:Nat} (hx:x<4294967296) (hs:s<4294967296) (hb:bo≤1):∃ d w b':Nat,arith .sub .u64 (arith .sub .u64 (x:Int) (s:Int)) (bo:Int)=(d:Int)∧IntKind.u32.wrap (d:Int)=(w:Int)∧(d:Int).fdiv (2 ^ (min (63:Int).toNat IntKind.u64.bits))=(b':Int)∧w<4294967296∧b'≤1∧x+4294967296*b'=w+s+bo:=by
 have e2:(2:Int) ^ (min (63:Int).toNat IntKind.u64.bits)=9223372036854775808:=by decide
 rw [e2]
 rcases Nat.lt_or_ge x (s+bo) with h | h
 ·refine ⟨18446744073709551616+x - s - bo,4294967296+x - s - bo,1,?_,?_,?_,by omega,by omega,by omega⟩
  ·rw [wY,wY,xN,xN]
   omega
  ·rw [xH]
   omega
  ·rw [Int.fdiv_eq_ediv_of_nonneg _ (by decide)]
   omega
 ·refine ⟨x - s - bo,x - s - bo,0,?_,?_,?_,by omega,by omega,by omega⟩
  ·rw [wY,wY,xN,xN]
   omega
  ·rw [xH]
   omega
  ·rw [Int.fdiv_eq_ediv_of_nonneg _ (by decide)]
   omega
theorem gB {p c u v x w q y carry bo t b':Nat} (h:c+q*u=v+p*(carry+bo)) (ht:t=carry+q*y) (hw:x+4294967296*b'=w+t % 4294967296+bo):c+p*w+q*(u+p*y)=v+p*x+p*4294967296*(t / 4294967296+b'):=by
 have e:x+4294967296*(t / 4294967296+b')=w+bo+t:=by omega
 have e1:=congrArg (p*·) e
 simp only [Nat.mul_add] at e1
 rw [ht] at e1
 rw [ht]
 generalize hk:(carry+q*y) / 4294967296=k at e1 ⊢
 have e2:q*(u+p*y)=q*u+p*(q*y):=by rw [Nat.mul_add,Nat.mul_left_comm]
 have e3:p*4294967296*(k+b')=p*(4294967296*k)+p*(4294967296*b'):=by rw [Nat.mul_assoc,Nat.mul_add,Nat.mul_add]
 simp only [Nat.mul_add] at h e1
 rw [e2,e3]
 omega
theorem gD {p c u v x y carry s:Nat} (h:c+p*carry=v+u) (hs:s=carry+x+y):c+p*(s % 4294967296)+p*4294967296*(s / 4294967296)=v+p*x+(u+p*y):=by
 have e:s % 4294967296+4294967296*(s / 4294967296)=carry+x+y:=by omega
 have e1:=congrArg (p*·) e
 simp only [Nat.mul_add] at e1
 rw [Nat.mul_assoc]
 omega
theorem back_end {X Y c c2 carry R:Nat} (hY:0<Y) (hYR:Y<R) (hc:c2<R) (h1:c+Y=X % Y+R) (h2:carry≤1) (h3:c2+R*carry=c+Y):c2=X % Y:=by
 have hm:=Nat.mod_lt X hY
 generalize X % Y=r at hm h1 ⊢
 have hcc:carry=0∨carry=1:=by omega
 rcases hcc with h | h
 ·subst h
  rw [Nat.mul_zero] at h3
  omega
 ·subst h
  rw [Nat.mul_one] at h3
  omega
theorem word_end {X Y q c R:Nat} (hY:0<Y) (h1:X / Y≤q) (h2:q*Y≤X+Y) (hc:c<R) (hXR:X<R) :
  (c+q*Y=X+R*(0+0)→q=X / Y∧c=X % Y)∧(c+q*Y=X+R*(0+1)→q - 1=X / Y∧1≤q∧c+Y=X % Y+R):=by
 have hd:=Nat.div_add_mod X Y
 have hm:=Nat.mod_lt X hY
 rw [Nat.mul_comm] at hd
 generalize X / Y=d at h1 hd ⊢
 generalize X % Y=r at hm hd ⊢
 constructor
 ·intro h
  rw [Nat.add_zero,Nat.mul_zero,Nat.add_zero] at h
  have e:q=d:=by
   rcases Nat.lt_or_ge d q with h3 | h3
   ·have:=Nat.mul_le_mul_right Y h3
    rw [Nat.succ_mul] at this
    omega
   ·omega
  subst e
  exact ⟨rfl,by omega⟩
 ·intro h
  rw [Nat.zero_add,Nat.mul_one] at h
  have h3:d<q:=by
   rcases Nat.lt_or_ge d q with h3 | h3
   ·exact h3
   ·have:=Nat.mul_le_mul_right Y h3
    omega
  have h4:q≤d+1:=by
   rcases Nat.lt_or_ge (d+1) q with h4 | h4
   ·have:=Nat.mul_le_mul_right Y h4
    rw [Nat.succ_mul,Nat.succ_mul] at this
    omega
   ·exact h4
  have e:q=d+1:=by omega
  subst e
  rw [Nat.succ_mul] at h
  exact ⟨by omega,by omega,by omega⟩
end Go.Proofs.YtokckcnfojjpjaaGreat

namespace Go.Proofs.YtokckcnfojjpjaaGreat
open Go.RowKit
set_option maxRecDepth 20000
def u64 (n:Nat):V:=.c (.int .u64 (n:Int))
theorem val_top2 {l:List Nat} {m:Nat} (hl:l.length=m+2):val l=(at0 l (m+1)*4294967296+at0 l m)*4294967296 ^ m+val (l.take m):=by
 have e:=xI (l:=l) (n:=m+2) (by omega)
 rw [yE,yE] at e
 rw [←e,Nat.pow_succ]
 grind
theorem val_top3 {l:List Nat} {m:Nat} (hl:l.length=m+3):val l=((at0 l (m+2)*4294967296+at0 l (m+1))*4294967296+at0 l m)*4294967296 ^ m+val (l.take m):=by
 have e:=xI (l:=l) (n:=m+3) (by omega)
 rw [yE,yE,yE] at e
 rw [←e,Nat.pow_succ,Nat.pow_succ]
 grind
theorem ld_head {s:Option Slot} {size off i:Nat} {l r:List Nat} {el:TypeId} {kd:BK} {K:V→Prop} (h:s=some (.live ⟨(l++r).map W,el,kd⟩)) (ho:off=i) (hi:i<l.length) (kk:K (.c (.int .u32 (at0 l i:Nat)))):yU s false size off K:=by
 refine wS h ho (by simp; omega) ?_
 rw [at0_app hi]
 exact kk
theorem quoN (a b:Nat) (h:a<18446744073709551616):arith .quo .u64 (a:Int) (b:Int)=((a / b:Nat):Int):=by
 show IntKind.u64.wrap ((a:Int).tdiv b)=_
 rw [←Int.ofNat_tdiv,xQ]
 exact Nat.lt_of_le_of_lt (Nat.div_le_self _ _) h
theorem subN (a b:Nat) (h:a<18446744073709551616) (h2:b≤a):arith .sub .u64 (a:Int) (b:Int)=((a - b:Nat):Int):=by
 rw [wY,show (a:Int) - b=((a - b:Nat):Int) by omega,xQ _ (by omega)]
theorem mnN (a:Nat):(if (4294967295:Int)<(a:Int) then (4294967295:Int) else (a:Int))=((min a 4294967295:Nat):Int):=by
 split <;> omega
theorem u32N (a:Nat):IntKind.u32.wrap (a:Int)=((a % 4294967296:Nat):Int):=by rw [xH]; omega
theorem shl32N (a:Nat) (h:a<4294967296):IntKind.u64.wrap ((a:Int)*2 ^ (min (32:Int).toNat IntKind.u64.bits))=((a*4294967296:Nat):Int):=by
 rw [shl32,show (a:Int)*4294967296=((a*4294967296:Nat):Int) by omega,xQ _ (by omega)]
theorem subI (a b:Nat) (h:a<9223372036854775808) (h2:b≤a):arith .sub .i64 (a:Int) (b:Int)=((a - b:Nat):Int):=by
 rw [wY,yH (by omega) (by omega)]
 omega
theorem addI (a b:Nat) (h:a+b<9223372036854775808):arith .add .i64 (a:Int) (b:Int)=((a+b:Nat):Int):=by
 rw [xB,yH (by omega) (by omega)]
 omega
theorem jN (a:Nat) (h:a<9223372036854775808) (h2:1≤a):arith .sub .i64 (a:Int) 1=((a - 1:Nat):Int):=subI a 1 h h2
theorem subI2 (a:Nat) (h:a<9223372036854775808) (h2:2≤a):arith .sub .i64 (a:Int) 2=((a - 2:Nat):Int):=subI a 2 h h2
theorem yZ (a:Nat) (h:a<9223372036854775807):arith .add .i64 (a:Int) 1=((a+1:Nat):Int):=addI a 1 (by omega)
theorem subN1 (a:Nat) (h:a<18446744073709551616) (h2:1≤a):arith .sub .u64 (a:Int) 1=((a - 1:Nat):Int):=subN a 1 h h2
structure Est (X Y q:Nat):Prop where
 lo:X / Y≤q
 hi:q*Y≤X+Y
 lt:q<4294967296
attribute [local irreducible] yA semH semC qLen qNil qIad qSlc qIdx yU yL yY appX appI slcX awpF yP xE xopF xL qval lval seqQ xD xW xT xP cnd arith IntKind.wrap
set_option maxHeartbeats 4000000 in
theorem ref01_word {H:Hp} {bx by' o k:Nat} {co co':Option Nat} {pre xs post yl yr:List Nat} {el el':TypeId} {kd:BK} {K:V→Hp→Prop}
  (hx:H[bx]?=some (.live ⟨(pre++xs++post).map W,el,.rw⟩)) (hy:H[by']?=some (.live ⟨(yl++yr).map W,el',kd⟩)) (hne:bx≠by') (ho:o=pre.length) (hk:yl.length=k) (hl:xs.length=k+1) (h2:2≤k) (hkm:k<2147483648) (ox:OkW xs) (oy:OkW yl) (htop:1≤at0 yl (k - 1)) (hlt:val xs<val yl*4294967296)
  (hK:∀ xs',xs'.length=k+1→OkW xs'→val xs'=val xs % val yl→val xs / val yl<4294967296→K (.c (.int .u32 ((val xs / val yl:Nat):Int))) (H.set bx (.live ⟨(pre++xs'++post).map W,el,.rw⟩))) :
  semH Tryz.prog n_ref01_word [.c (.sl bx o (k+1) co 1),.c (.sl by' 0 k co' 1),u64 (at0 yl (k - 1)),u64 (at0 yl (k - 2))] H K:=by
 subst ho
 have hbx:bx<H.length:=lt_of_getElem? hx
 have gt:=oy.get (k - 1)
 have gn:=oy.get (k - 2)
 have g0:=ox.get k
 have g1:=ox.get (k - 1)
 have g2:=ox.get (k - 2)
 have hP:0<4294967296 ^ (k - 2):=Nat.pow_pos (by decide)
 have hY:=val_top2 (l:=yl) (m:=k - 2) (by omega)
 have hX:=val_top3 (l:=xs) (m:=k - 2) (by omega)
 rw [show k - 2+1=k - 1 by omega] at hY hX
 rw [show k - 2+2=k by omega] at hX
 have hyl:=vV (oy.take (k - 2))
 have hxl:=vV (ox.take (k - 2))
 rw [show (yl.take (k - 2)).length=k - 2 by simp; omega] at hyl
 rw [show (xs.take (k - 2)).length=k - 2 by simp; omega] at hxl
 have hY0:0<val yl:=by
  rcases Nat.eq_zero_or_pos (val yl) with h | h
  ·rw [h] at hlt
   omega
  ·exact h
 have hQ:val xs / val yl<4294967296:=by
  rw [Nat.div_lt_iff_lt_mul hY0,Nat.mul_comm]
  exact hlt
 have hQY:val xs / val yl*val yl≤val xs:=Nat.div_mul_le_self _ _
 have hst:=est_start hP hX g2 hxl hY hQY
 have hR:val xs<4294967296 ^ (k+1):=by
  have:=vV ox
  rwa [hl] at this
 have hYR:val yl<4294967296 ^ k:=by
  have:=vV oy
  rwa [hk] at this
 have hrn:∀ q rest,q*at0 yl (k - 1)+rest=at0 xs k*4294967296+at0 xs (k - 1)→val xs / val yl≤q→q*at0 yl (k - 2) > rest*4294967296+at0 xs (k - 2)→val xs / val yl≤q - 1∧1≤q:=by
  intro q rest e1 e2 e3
  have h:=est_round hP hX hxl hY e1 e3
  have h1:val xs / val yl<q:=(Nat.div_lt_iff_lt_mul hY0).2 h
  exact ⟨Nat.le_sub_one_of_lt h1,Nat.lt_of_le_of_lt (Nat.zero_le _) h1⟩
 have hen:∀ q rest,q*at0 yl (k - 1)+rest=at0 xs k*4294967296+at0 xs (k - 1)→val xs / val yl≤q→q<4294967296→q*at0 yl (k - 2)≤rest*4294967296+at0 xs (k - 2)→Est (val xs) (val yl) q :=
  fun q rest e1 e2 e3 e4 => ⟨e2,est_end hP hX hY hyl htop e1 (by omega) e4,e3⟩
 have hov:∀ q rest,q*at0 yl (k - 1)+rest=at0 xs k*4294967296+at0 xs (k - 1)→val xs / val yl≤q→q<4294967296→4294967296≤rest→Est (val xs) (val yl) q :=
  fun q rest e1 e2 e3 e4 => ⟨e2,Nat.le_trans (est_over hP hX hY hyl gn e1 e3 e4) (Nat.le_add_right _ _),e3⟩
 clear hX hY hxl hyl
 refine pB ok_ref01_word rfl ?_
 refine go ?_
 refine yJ (by rfl) (by rfl) (by omega) (by omega) ?_
 refine go ?_
 refine tD (i:=k) hx (by omega) (by omega) ?_
 refine go ?_
 rw [jN k (by omega) (by omega)]
 refine yJ (by rfl) (by rfl) (by omega) (by omega) ?_
 refine go ?_
 refine tD (i:=k - 1) hx (by omega) (by omega) ?_
 refine go ?_
 rw [xQ _ (by omega:at0 xs k<18446744073709551616),xQ _ (by omega:at0 xs (k - 1)<18446744073709551616),shl32N _ g0,pK g0 g1]
 refine q_ar (by rfl) (by rfl) (by simp [needs]; omega) ?_
 rw [quoN _ _ (by omega)]
 refine go ?_
 rw [mnN]
 have hq0:min ((at0 xs k*4294967296+at0 xs (k - 1)) / at0 yl (k - 1)) 4294967295*at0 yl (k - 1)≤at0 xs k*4294967296+at0 xs (k - 1):=Nat.le_trans (Nat.mul_le_mul_right _ (Nat.min_le_left _ _)) (Nat.div_mul_le_self _ _)
 have hq1:val xs / val yl≤min ((at0 xs k*4294967296+at0 xs (k - 1)) / at0 yl (k - 1)) 4294967295:=Nat.le_min.2 ⟨(Nat.le_div_iff_mul_le htop).2 hst,Nat.le_of_lt_succ hQ⟩
 have hq2:=Nat.min_le_right ((at0 xs k*4294967296+at0 xs (k - 1)) / at0 yl (k - 1)) 4294967295
 generalize min ((at0 xs k*4294967296+at0 xs (k - 1)) / at0 yl (k - 1)) 4294967295=q0 at hq0 hq1 hq2 ⊢
 rw [mulN _ _ (by omega),subN _ _ (by omega) hq0]
 refine go ?_
 refine yR (fun n vs H' => ∃ q rest:Nat,vs=[.c (.sl bx pre.length (k+1) co 1),.c (.sl by' 0 k co' 1),u64 (at0 yl (k - 1)),u64 (at0 yl (k - 2)),i64 k,u64 q,u64 rest]∧H'=H∧n=q∧q*at0 yl (k - 1)+rest=at0 xs k*4294967296+at0 xs (k - 1)∧val xs / val yl≤q∧q<4294967296) (by rfl) ⟨q0,_,rfl,rfl,rfl,by omega,hq1,by omega⟩ ?_
 rintro n vs H' ⟨q,rest,rfl,rfl,rfl,p1,p2,p3⟩
 refine go ?_
 cases hr:yA Cm.lss (rest:Int) 4294967296
 ·simp [yA] at hr
  have hE:=hov n rest p1 p2 p3 (by omega)
  refine go ?_
  refine yR (fun m vs H2 => ∃ (i bo carry:Nat) (cur:List Nat),vs=[.c (.sl bx pre.length (k+1) co 1),.c (.sl by' 0 k co' 1),i64 k,u64 n,u64 bo,u64 carry,i64 i]∧H2=H'.set bx (.live ⟨(pre++cur++post).map W,el,.rw⟩)∧m=k+1 - i∧i≤k+1∧cur.length=k+1∧OkW cur∧bo≤1∧carry<4294967296∧(k<i→carry=0)∧val (cur.take i)+n*val (yl.take i)=val (xs.take i)+4294967296 ^ i*(carry+bo)∧∀ j,i≤j→at0 cur j=at0 xs j) (by rfl) ⟨0,0,0,xs,rfl,(set_same hx).symm,rfl,by omega,hl,ox,by omega,by omega,by omega,by simp [val],fun _ _ => rfl⟩ ?_
  rintro m vs H2 ⟨i,bo,carry,cur,rfl,rfl,rfl,p2',p3,p4,p5,p6,p7,p7',p8⟩
  have gc:=p4.get i
  refine go ?_
  cases hq1:yA Cm.leq (i:Int) (k:Int)
  ·simp [yA] at hq1
   have ei:i=k+1:=by omega
   subst ei
   have ec:=p7 (by omega)
   subst ec
   rw [xI (by omega),xI (by omega),xI (by omega)] at p7'
   have hC:=vV p4
   rw [p3] at hC
   obtain ⟨z1,z2⟩:=word_end (q:=n) (c:=val cur) hY0 hE.lo hE.hi hC hR
   refine go ?_
   cases hb:yA Cm.eql (bo:Int) 0
   ·simp only [yA,yI] at hb
    have eb:bo=1:=by omega
    subst eb
    obtain ⟨y1,y2,y3⟩:=z2 p7'
    refine go ?_
    refine yR (fun m vs H2 => ∃ (i carry:Nat) (c2:List Nat),vs=[.c (.sl bx pre.length (k+1) co 1),.c (.sl by' 0 k co' 1),i64 k,u64 n,u64 carry,i64 i]∧H2=H'.set bx (.live ⟨(pre++c2++post).map W,el,.rw⟩)∧m=k+1 - i∧i≤k+1∧c2.length=k+1∧OkW c2∧carry≤1∧val (c2.take i)+4294967296 ^ i*carry=val (cur.take i)+val (yl.take i)∧∀ j,i≤j→at0 c2 j=at0 cur j) (by rfl) ⟨0,0,cur,rfl,rfl,rfl,by omega,p3,p4,by omega,by simp [val],fun _ _ => rfl⟩ ?_
    rintro m vs H2 ⟨i,carry,c2,rfl,rfl,rfl,r2,r3,r4,r5,r6,r8⟩
    have gc2:=r4.get i
    have gy:=oy.get i
    refine go ?_
    cases hq2:yA Cm.leq (i:Int) (k:Int)
    ·simp [yA] at hq2
     have ei:i=k+1:=by omega
     subst ei
     rw [xI (by omega),xI (by omega),xI (by omega)] at r6
     have hC2:=vV r4
     rw [r3] at hC2
     refine go ?_
     rw [subN1 n (by omega) y2,u32N,y1,Nat.mod_eq_of_lt hQ]
     exact hK c2 r3 r4 (back_end hY0 (Nat.lt_of_lt_of_le hYR (Nat.pow_le_pow_right (by decide) (Nat.le_succ k))) hC2 y3 r5 r6) hQ
    ·simp [yA] at hq2
     refine go ?_
     refine yJ (by rfl) (by rfl) (by omega) (by omega) ?_
     refine go ?_
     refine tD (i:=i) (qL hbx) (by omega) (by omega) ?_
     refine go ?_
     rw [xQ _ (by omega:at0 c2 i<18446744073709551616),addN _ _ (by omega)]
     cases hq3:yA Cm.lss (i:Int) (k:Int)
     ·simp [yA] at hq3
      have ei:i=k:=by omega
      subst ei
      refine go ?_
      rw [u32N]
      refine yJ (by rfl) (by rfl) (by omega) (by omega) ?_
      refine go ?_
      refine sP (i:=i) (qL hbx) (by rfl) (by omega) (by omega) ?_
      rw [List.set_set]
      refine go ?_
      rw [shrN,yZ i (by omega)]
      refine l_n (by rfl) (by omega) ⟨i+1,_,c2.set i ((carry+at0 c2 i) % 4294967296),rfl,rfl,rfl,by omega,by simp [r3],r4.set (by omega),by omega,?_,fun j hj => ?_⟩
      ·rw [xF (by omega),yE yl,yE cur,Nat.pow_succ,←r8 i (Nat.le_refl i)]
       exact gD r6 (by rw [jI (l:=yl) (by omega)]; simp)
      ·rw [wA (by omega)]
       exact r8 j (by omega)
     ·simp [yA] at hq3
      refine go ?_
      refine yJ (by rfl) (by rfl) (by omega) (by omega) ?_
      refine go ?_
      refine ld_head (i:=i) ((mJ hne).trans hy) (by omega) (by omega) ?_
      refine go ?_
      rw [xQ _ (by omega:at0 yl i<18446744073709551616),addN _ _ (by omega)]
      refine go ?_
      rw [u32N]
      refine yJ (by rfl) (by rfl) (by omega) (by omega) ?_
      refine go ?_
      refine sP (i:=i) (qL hbx) (by rfl) (by omega) (by omega) ?_
      rw [List.set_set]
      refine go ?_
      rw [shrN,yZ i (by omega)]
      refine l_n (by rfl) (by omega) ⟨i+1,_,c2.set i ((carry+at0 c2 i+at0 yl i) % 4294967296),rfl,rfl,rfl,by omega,by simp [r3],r4.set (by omega),by omega,?_,fun j hj => ?_⟩
      ·rw [xF (by omega),yE yl,yE cur,Nat.pow_succ,←r8 i (Nat.le_refl i)]
       exact gD r6 rfl
      ·rw [wA (by omega)]
       exact r8 j (by omega)
   ·simp only [yA,yG] at hb
    have eb:bo=0:=by omega
    subst eb
    obtain ⟨y1,y2⟩:=z1 p7'
    refine go ?_
    rw [u32N,y1,Nat.mod_eq_of_lt hQ]
    exact hK cur p3 p4 y2 hQ
  ·simp [yA] at hq1
   refine go ?_
   cases hq2:yA Cm.lss (i:Int) (k:Int)
   ·simp [yA] at hq2
    have ei:i=k:=by omega
    subst ei
    refine go ?_
    refine yJ (by rfl) (by rfl) (by omega) (by omega) ?_
    refine go ?_
    refine tD (i:=i) (qL hbx) (by omega) (by omega) ?_
    refine go ?_
    rw [xQ _ (by omega:at0 cur i<18446744073709551616),u32N,xQ _ (by omega:carry % 4294967296<18446744073709551616)]
    obtain ⟨d,w,b',e1,e2,e3,w1,w2,w3⟩:=sub_u64 (x:=at0 cur i) (s:=carry % 4294967296) (bo:=bo) (p4.get i) (Nat.mod_lt _ (by decide)) p5
    rw [e1]
    refine go ?_
    rw [e2]
    refine yJ (by rfl) (by rfl) (by omega) (by omega) ?_
    refine go ?_
    refine sP (i:=i) (qL hbx) (by rfl) (by omega) (by omega) ?_
    rw [List.set_set]
    refine go ?_
    rw [e3,shrN,yZ i (by omega)]
    refine l_n (by rfl) (by omega) ⟨i+1,b',carry / 4294967296,cur.set i w,rfl,rfl,rfl,by omega,by simp [p3],p4.set w1,w2,by omega,by omega,?_,fun j hj => ?_⟩
    ·rw [xF (by omega),yE yl,yE xs,Nat.pow_succ,←p8 i (Nat.le_refl i)]
     exact gB (y:=at0 yl i) p7' (by rw [jI (by omega)]; simp) w3
    ·rw [wA (by omega)]
     exact p8 j (by omega)
   ·simp [yA] at hq2
    have gy:=oy.get i
    have hm:n*at0 yl i+carry<18446744073709551616:=by
     have:=Nat.mul_le_mul (Nat.le_of_lt_succ hE.lt) (Nat.le_of_lt_succ gy)
     omega
    refine go ?_
    refine yJ (by rfl) (by rfl) (by omega) (by omega) ?_
    refine go ?_
    refine ld_head (i:=i) ((mJ hne).trans hy) (by omega) (by omega) ?_
    refine go ?_
    rw [xQ _ (by omega:at0 yl i<18446744073709551616),mulN _ _ (by omega),addN _ _ (by omega)]
    refine go ?_
    refine yJ (by rfl) (by rfl) (by omega) (by omega) ?_
    refine go ?_
    refine tD (i:=i) (qL hbx) (by omega) (by omega) ?_
    refine go ?_
    rw [xQ _ (by omega:at0 cur i<18446744073709551616),u32N,xQ _ (by omega:(carry+n*at0 yl i) % 4294967296<18446744073709551616)]
    obtain ⟨d,w,b',e1,e2,e3,w1,w2,w3⟩:=sub_u64 (x:=at0 cur i) (s:=(carry+n*at0 yl i) % 4294967296) (bo:=bo) (p4.get i) (Nat.mod_lt _ (by decide)) p5
    rw [e1]
    refine go ?_
    rw [e2]
    refine yJ (by rfl) (by rfl) (by omega) (by omega) ?_
    refine go ?_
    refine sP (i:=i) (qL hbx) (by rfl) (by omega) (by omega) ?_
    rw [List.set_set]
    refine go ?_
    rw [e3,shrN,yZ i (by omega)]
    refine l_n (by rfl) (by omega) ⟨i+1,b',(carry+n*at0 yl i) / 4294967296,cur.set i w,rfl,rfl,rfl,by omega,by simp [p3],p4.set w1,w2,by omega,by omega,?_,fun j hj => ?_⟩
    ·rw [xF (by omega),yE yl,yE xs,Nat.pow_succ,←p8 i (Nat.le_refl i)]
     exact gB p7' rfl w3
    ·rw [wA (by omega)]
     exact p8 j (by omega)
 ·simp [yA] at hr
  refine go ?_
  rw [subI2 k (by omega) (by omega)]
  refine yJ (by rfl) (by rfl) (by omega) (by omega) ?_
  refine go ?_
  refine tD (i:=k - 2) hx (by omega) (by omega) ?_
  refine go ?_
  have hm:n*at0 yl (k - 2)<18446744073709551616:=by
   have:=Nat.mul_le_mul (Nat.le_of_lt_succ p3) (Nat.le_of_lt_succ gn)
   omega
  rw [mulN _ _ hm,xQ _ (by omega:at0 xs (k - 2)<18446744073709551616),shl32N _ (by omega),pK (by omega) g2]
  cases hg:yA Cm.gtr ((n*at0 yl (k - 2):Nat):Int) ((rest*4294967296+at0 xs (k - 2):Nat):Int)
  ·simp only [yA,yI] at hg
   have hE:=hen n rest p1 p2 p3 (by omega)
   refine go ?_
   refine yR (fun m vs H2 => ∃ (i bo carry:Nat) (cur:List Nat),vs=[.c (.sl bx pre.length (k+1) co 1),.c (.sl by' 0 k co' 1),i64 k,u64 n,u64 bo,u64 carry,i64 i]∧H2=H'.set bx (.live ⟨(pre++cur++post).map W,el,.rw⟩)∧m=k+1 - i∧i≤k+1∧cur.length=k+1∧OkW cur∧bo≤1∧carry<4294967296∧(k<i→carry=0)∧val (cur.take i)+n*val (yl.take i)=val (xs.take i)+4294967296 ^ i*(carry+bo)∧∀ j,i≤j→at0 cur j=at0 xs j) (by rfl) ⟨0,0,0,xs,rfl,(set_same hx).symm,rfl,by omega,hl,ox,by omega,by omega,by omega,by simp [val],fun _ _ => rfl⟩ ?_
   rintro m vs H2 ⟨i,bo,carry,cur,rfl,rfl,rfl,p2',p3,p4,p5,p6,p7,p7',p8⟩
   have gc:=p4.get i
   refine go ?_
   cases hq1:yA Cm.leq (i:Int) (k:Int)
   ·simp [yA] at hq1
    have ei:i=k+1:=by omega
    subst ei
    have ec:=p7 (by omega)
    subst ec
    rw [xI (by omega),xI (by omega),xI (by omega)] at p7'
    have hC:=vV p4
    rw [p3] at hC
    obtain ⟨z1,z2⟩:=word_end (q:=n) (c:=val cur) hY0 hE.lo hE.hi hC hR
    refine go ?_
    cases hb:yA Cm.eql (bo:Int) 0
    ·simp only [yA,yI] at hb
     have eb:bo=1:=by omega
     subst eb
     obtain ⟨y1,y2,y3⟩:=z2 p7'
     refine go ?_
     refine yR (fun m vs H2 => ∃ (i carry:Nat) (c2:List Nat),vs=[.c (.sl bx pre.length (k+1) co 1),.c (.sl by' 0 k co' 1),i64 k,u64 n,u64 carry,i64 i]∧H2=H'.set bx (.live ⟨(pre++c2++post).map W,el,.rw⟩)∧m=k+1 - i∧i≤k+1∧c2.length=k+1∧OkW c2∧carry≤1∧val (c2.take i)+4294967296 ^ i*carry=val (cur.take i)+val (yl.take i)∧∀ j,i≤j→at0 c2 j=at0 cur j) (by rfl) ⟨0,0,cur,rfl,rfl,rfl,by omega,p3,p4,by omega,by simp [val],fun _ _ => rfl⟩ ?_
     rintro m vs H2 ⟨i,carry,c2,rfl,rfl,rfl,r2,r3,r4,r5,r6,r8⟩
     have gc2:=r4.get i
     have gy:=oy.get i
     refine go ?_
     cases hq2:yA Cm.leq (i:Int) (k:Int)
     ·simp [yA] at hq2
      have ei:i=k+1:=by omega
      subst ei
      rw [xI (by omega),xI (by omega),xI (by omega)] at r6
      have hC2:=vV r4
      rw [r3] at hC2
      refine go ?_
      rw [subN1 n (by omega) y2,u32N,y1,Nat.mod_eq_of_lt hQ]
      exact hK c2 r3 r4 (back_end hY0 (Nat.lt_of_lt_of_le hYR (Nat.pow_le_pow_right (by decide) (Nat.le_succ k))) hC2 y3 r5 r6) hQ
     ·simp [yA] at hq2
      refine go ?_
      refine yJ (by rfl) (by rfl) (by omega) (by omega) ?_
      refine go ?_
      refine tD (i:=i) (qL hbx) (by omega) (by omega) ?_
      refine go ?_
      rw [xQ _ (by omega:at0 c2 i<18446744073709551616),addN _ _ (by omega)]
      cases hq3:yA Cm.lss (i:Int) (k:Int)
      ·simp [yA] at hq3
       have ei:i=k:=by omega
       subst ei
       refine go ?_
       rw [u32N]
       refine yJ (by rfl) (by rfl) (by omega) (by omega) ?_
       refine go ?_
       refine sP (i:=i) (qL hbx) (by rfl) (by omega) (by omega) ?_
       rw [List.set_set]
       refine go ?_
       rw [shrN,yZ i (by omega)]
       refine l_n (by rfl) (by omega) ⟨i+1,_,c2.set i ((carry+at0 c2 i) % 4294967296),rfl,rfl,rfl,by omega,by simp [r3],r4.set (by omega),by omega,?_,fun j hj => ?_⟩
       ·rw [xF (by omega),yE yl,yE cur,Nat.pow_succ,←r8 i (Nat.le_refl i)]
        exact gD r6 (by rw [jI (l:=yl) (by omega)]; simp)
       ·rw [wA (by omega)]
        exact r8 j (by omega)
      ·simp [yA] at hq3
       refine go ?_
       refine yJ (by rfl) (by rfl) (by omega) (by omega) ?_
       refine go ?_
       refine ld_head (i:=i) ((mJ hne).trans hy) (by omega) (by omega) ?_
       refine go ?_
       rw [xQ _ (by omega:at0 yl i<18446744073709551616),addN _ _ (by omega)]
       refine go ?_
       rw [u32N]
       refine yJ (by rfl) (by rfl) (by omega) (by omega) ?_
       refine go ?_
       refine sP (i:=i) (qL hbx) (by rfl) (by omega) (by omega) ?_
       rw [List.set_set]
       refine go ?_
       rw [shrN,yZ i (by omega)]
       refine l_n (by rfl) (by omega) ⟨i+1,_,c2.set i ((carry+at0 c2 i+at0 yl i) % 4294967296),rfl,rfl,rfl,by omega,by simp [r3],r4.set (by omega),by omega,?_,fun j hj => ?_⟩
       ·rw [xF (by omega),yE yl,yE cur,Nat.pow_succ,←r8 i (Nat.le_refl i)]
        exact gD r6 rfl
       ·rw [wA (by omega)]
        exact r8 j (by omega)
    ·simp only [yA,yG] at hb
     have eb:bo=0:=by omega
     subst eb
     obtain ⟨y1,y2⟩:=z1 p7'
     refine go ?_
     rw [u32N,y1,Nat.mod_eq_of_lt hQ]
     exact hK cur p3 p4 y2 hQ
   ·simp [yA] at hq1
    refine go ?_
    cases hq2:yA Cm.lss (i:Int) (k:Int)
    ·simp [yA] at hq2
     have ei:i=k:=by omega
     subst ei
     refine go ?_
     refine yJ (by rfl) (by rfl) (by omega) (by omega) ?_
     refine go ?_
     refine tD (i:=i) (qL hbx) (by omega) (by omega) ?_
     refine go ?_
     rw [xQ _ (by omega:at0 cur i<18446744073709551616),u32N,xQ _ (by omega:carry % 4294967296<18446744073709551616)]
     obtain ⟨d,w,b',e1,e2,e3,w1,w2,w3⟩:=sub_u64 (x:=at0 cur i) (s:=carry % 4294967296) (bo:=bo) (p4.get i) (Nat.mod_lt _ (by decide)) p5
     rw [e1]
     refine go ?_
     rw [e2]
     refine yJ (by rfl) (by rfl) (by omega) (by omega) ?_
     refine go ?_
     refine sP (i:=i) (qL hbx) (by rfl) (by omega) (by omega) ?_
     rw [List.set_set]
     refine go ?_
     rw [e3,shrN,yZ i (by omega)]
     refine l_n (by rfl) (by omega) ⟨i+1,b',carry / 4294967296,cur.set i w,rfl,rfl,rfl,by omega,by simp [p3],p4.set w1,w2,by omega,by omega,?_,fun j hj => ?_⟩
     ·rw [xF (by omega),yE yl,yE xs,Nat.pow_succ,←p8 i (Nat.le_refl i)]
      exact gB (y:=at0 yl i) p7' (by rw [jI (by omega)]; simp) w3
     ·rw [wA (by omega)]
      exact p8 j (by omega)
    ·simp [yA] at hq2
     have gy:=oy.get i
     have hm:n*at0 yl i+carry<18446744073709551616:=by
      have:=Nat.mul_le_mul (Nat.le_of_lt_succ hE.lt) (Nat.le_of_lt_succ gy)
      omega
     refine go ?_
     refine yJ (by rfl) (by rfl) (by omega) (by omega) ?_
     refine go ?_
     refine ld_head (i:=i) ((mJ hne).trans hy) (by omega) (by omega) ?_
     refine go ?_
     rw [xQ _ (by omega:at0 yl i<18446744073709551616),mulN _ _ (by omega),addN _ _ (by omega)]
     refine go ?_
     refine yJ (by rfl) (by rfl) (by omega) (by omega) ?_
     refine go ?_
     refine tD (i:=i) (qL hbx) (by omega) (by omega) ?_
     refine go ?_
     rw [xQ _ (by omega:at0 cur i<18446744073709551616),u32N,xQ _ (by omega:(carry+n*at0 yl i) % 4294967296<18446744073709551616)]
     obtain ⟨d,w,b',e1,e2,e3,w1,w2,w3⟩:=sub_u64 (x:=at0 cur i) (s:=(carry+n*at0 yl i) % 4294967296) (bo:=bo) (p4.get i) (Nat.mod_lt _ (by decide)) p5
     rw [e1]
     refine go ?_
     rw [e2]
     refine yJ (by rfl) (by rfl) (by omega) (by omega) ?_
     refine go ?_
     refine sP (i:=i) (qL hbx) (by rfl) (by omega) (by omega) ?_
     rw [List.set_set]
     refine go ?_
     rw [e3,shrN,yZ i (by omega)]
     refine l_n (by rfl) (by omega) ⟨i+1,b',(carry+n*at0 yl i) / 4294967296,cur.set i w,rfl,rfl,rfl,by omega,by simp [p3],p4.set w1,w2,by omega,by omega,?_,fun j hj => ?_⟩
     ·rw [xF (by omega),yE yl,yE xs,Nat.pow_succ,←p8 i (Nat.le_refl i)]
      exact gB p7' rfl w3
     ·rw [wA (by omega)]
      exact p8 j (by omega)
  ·simp only [yA,yG] at hg
   obtain ⟨n1,n2⟩:=hrn n rest p1 p2 (by omega)
   refine go ?_
   rw [subN1 n (by omega) n2,addN _ _ (by omega)]
   refine l_n (by rfl) (by omega) ⟨n - 1,_,rfl,rfl,rfl,?_,n1,by omega⟩
   have:=Nat.sub_mul n 1 (at0 yl (k - 1))
   have:=Nat.mul_le_mul_right (at0 yl (k - 1)) n2
   omega
end Go.Proofs.YtokckcnfojjpjaaGreat
