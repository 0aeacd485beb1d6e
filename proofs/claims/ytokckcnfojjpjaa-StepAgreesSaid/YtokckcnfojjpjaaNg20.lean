/-
  Parts of the proof: num.Q.Add, Div; span.middle, Halves; rat.Add.
-/
import Derived.Test.YtokckcnfojjpjaaNg18
import Derived.Test.YtokckcnfojjpjaaNg17
import Derived.Test.YtokckcnfojjpjaaNg19
set_option linter.unusedVariables false
set_option linter.unusedSimpArgs false
namespace Go.Proofs.Ytokckcnfojjpjaa
open Go.RowKit
set_option maxRecDepth 20000
theorem Bd.up {k:Nat} {p:R2} (h:Bd k p):Bd (k+1) p:=⟨h.n.up (by omega),h.d.up (by omega),h.pos⟩
theorem Sz.add {n:Nat} {a b:Int} (h1:Sz n a) (h2:Sz n b):Sz (n+1) (a+b):=by
 unfold Sz at *
 rw [Nat.pow_succ]
 have:=Int.natAbs_add_le a b
 omega
attribute [local irreducible] yA semH semC qLen qNil qIad qSlc qIdx yW yI xA appX appI slcX awpF yP xH xopF xM qval lval seqQ xJ xY xU xR cnd arith IntKind.wrap
theorem num_Q_Add {S:Int→Prop} {n k:Nat} (hS:SCl S n) (hQ:QuoOk S) {cs ds:List C} {p q:R2} (hx:IsQ cs p) (hy:IsQ ds q) (bp:Bd k p) (bq:Bd k q) (hk:k+k≤268435456) (s1:S (p.1*q.2+q.1*p.2)) (s2:S (p.2*q.2)):semC Try.prog n_num_Q_Add [.agg cs,.agg ds] (sC (p.1*q.2+q.1*p.2) (p.2*q.2)):=by
 refine yD ok_num_Q_Add rfl (show HFVs [.agg cs,.agg ds] from ⟨hx.hf,hy.hf,trivial⟩) ?_
 obtain ⟨a,b,c,d,e,f,rfl,h1,h2⟩:=hx.six
 obtain ⟨a',b',c',d',e',f',rfl,h3,h4⟩:=hy.six
 have hpos:0<p.2*q.2:=Int.mul_pos bp.pos bq.pos
 refine go2 ?_
 refine yB (gU hx bp.d (by omega)) (fun u hu => ?_)
 obtain ⟨z1,rfl,i1⟩:=hu
 cases z1
 case false =>
  refine go2 ?_
  refine yS (uF h1 h4 bp.n bq.d (by omega)) (fun u hu => ?_)
  obtain ⟨es,rfl,h5⟩:=hu
  refine go2 ?_
  refine yS (uF h3 h2 bq.n bp.d (by omega)) (fun u hu => ?_)
  obtain ⟨fs,rfl,h6⟩:=hu
  refine go2 ?_
  refine yS (gI h5 h6 (bp.n.mul bq.d) (bq.n.mul bp.d) (by omega)) (fun u hu => ?_)
  obtain ⟨gs,rfl,h7⟩:=hu
  refine go2 ?_
  refine yS (uF h2 h4 bp.d bq.d (by omega)) (fun u hu => ?_)
  obtain ⟨ks,rfl,h8⟩:=hu
  refine go2 ?_
  refine yS (pC hS hQ h7 h8 s1 s2 (by omega)) (fun u hu => ?_)
  obtain ⟨gs,r,rfl,r1,r2,r3,r4,r5,r6⟩:=hu
  obtain ⟨x,y,z,w,v,t,rfl,_⟩:=r1.six
  refine go2 ?_
  exact sC.fz r1 r2 r3 r4 r5 r6
 case true =>
  have e1:=i1.1 rfl
  refine go2 ?_
  refine yB (gU hy bq.d (by omega)) (fun u hu => ?_)
  obtain ⟨z2,rfl,i2⟩:=hu
  cases z2
  case false =>
   refine go2 ?_
   refine yS (uF h1 h4 bp.n bq.d (by omega)) (fun u hu => ?_)
   obtain ⟨es,rfl,h5⟩:=hu
   refine go2 ?_
   refine yS (uF h3 h2 bq.n bp.d (by omega)) (fun u hu => ?_)
   obtain ⟨fs,rfl,h6⟩:=hu
   refine go2 ?_
   refine yS (gI h5 h6 (bp.n.mul bq.d) (bq.n.mul bp.d) (by omega)) (fun u hu => ?_)
   obtain ⟨gs,rfl,h7⟩:=hu
   refine go2 ?_
   refine yS (uF h2 h4 bp.d bq.d (by omega)) (fun u hu => ?_)
   obtain ⟨ks,rfl,h8⟩:=hu
   refine go2 ?_
   refine yS (pC hS hQ h7 h8 s1 s2 (by omega)) (fun u hu => ?_)
   obtain ⟨gs,r,rfl,r1,r2,r3,r4,r5,r6⟩:=hu
   obtain ⟨x,y,z,w,v,t,rfl,_⟩:=r1.six
   refine go2 ?_
   exact sC.fz r1 r2 r3 r4 r5 r6
  case true =>
   have e2:=i2.1 rfl
   refine go2 ?_
   refine yS (gI h1 h3 bp.n bq.n (by omega)) (fun u hu => ?_)
   obtain ⟨es,rfl,h5⟩:=hu
   obtain ⟨x,y,z,rfl⟩:=h5.three
   refine go2 ?_
   refine sC.fz (p:=(p.1+q.1,p.2)) (.of h5 h2) bp.pos ?_ ?_ ?_ ?_
   ·rw [e1]
    simp
   ·rw [e1,e2]
    simp
   ·rw [e1,e2]
    simp
   ·rw [e1,e2]
    simp
theorem num_Q_Div {S:Int→Prop} {n k:Nat} (hS:SCl S n) (hQ:QuoOk S) {cs ds:List C} {p q:R2} (hx:IsQ cs p) (hy:IsQ ds q) (bp:Bd k p) (bq:Bd k q) (hk:k+k≤268435456) (h0:q.1≠0) (s1:S (p.1*q.2)) (s2:S (p.2*q.1)):semC Try.prog n_num_Q_Div [.agg cs,.agg ds] (sC (p.1*q.2) (p.2*q.1)):=by
 refine yD ok_num_Q_Div rfl (show HFVs [.agg cs,.agg ds] from ⟨hx.hf,hy.hf,trivial⟩) ?_
 obtain ⟨a,b,c,d,e,f,rfl,h1,h2⟩:=hx.six
 obtain ⟨a',b',c',d',e',f',rfl,h3,h4⟩:=hy.six
 have hne:p.2*q.1≠0:=Int.mul_ne_zero (by have:=bp.pos; omega) h0
 refine go2 ?_
 refine yS (uF h1 h4 bp.n bq.d (by omega)) (fun u hu => ?_)
 obtain ⟨es,rfl,h5⟩:=hu
 refine go2 ?_
 refine yS (uF h2 h3 bp.d bq.n (by omega)) (fun u hu => ?_)
 obtain ⟨fs,rfl,h6⟩:=hu
 refine go2 ?_
 refine yS (pC hS hQ h5 h6 s1 s2 hne) (fun u hu => ?_)
 obtain ⟨gs,r,rfl,r1,r2,r3,r4,r5,r6⟩:=hu
 obtain ⟨x,y,z,w,v,t,rfl,_⟩:=r1.six
 refine go2 ?_
 exact sC.fz r1 r2 r3 r4 r5 r6
end Go.Proofs.Ytokckcnfojjpjaa

namespace Go.Proofs.Ytokckcnfojjpjaa
open Go.RowKit
set_option maxRecDepth 20000
def NormK (v:Nat) (u:V):Prop:=∃ c l,u=.c c∧Wd c l∧Norm l∧val l=v
theorem NormK.fz {v:Nat} {c:C} {l:List Nat} {H:Hp} (h1:Wd c l) (h2:Norm l) (h3:val l=v):∃ d,FzV H (.c c) d∧NormK v d:=⟨_,.c (.hf h1.hf),c,l,rfl,h1,h2,h3⟩
attribute [local irreducible] yA semH semC qLen qNil qIad qSlc qIdx yW yI xA appX appI slcX awpF yP xH xopF xM qval lval seqQ xJ xY xU xR cnd arith IntKind.wrap
end Go.Proofs.Ytokckcnfojjpjaa

namespace Go.Proofs.Ytokckcnfojjpjaa
open Go.RowKit
set_option maxRecDepth 20000
def RRK (n d:Int) (u:V):Prop:=∃ cs p,u=.agg cs∧IsRQ cs p.1 p.2∧Red n d p
theorem RRK.fz {n d:Int} {p:R2} {cs:List C} {H:Hp} (h:IsRQ cs p.1 p.2) (r:Red n d p):∃ e,FzV H (.agg cs) e∧RRK n d e:=⟨_,.agg (.hf h.hf),cs,p,rfl,h,r⟩
theorem Red.uniq {n d n' d':Int} {p q:R2} (hp:Red n d p) (hq:Red n' d' q) (h0:d≠0) (h0':d'≠0) (e:n*d'=n'*d):p=q:=by
 have h:p.1*q.2=q.1*p.2:=by
  have a1:=hp.eq
  have a2:=hq.eq
  have hh:p.1*q.2*(d*d')=q.1*p.2*(d*d'):=by
   have b1:=congrArg (·*(q.2*d')) a1
   have b2:=congrArg (·*(p.2*d)) a2
   have b3:=congrArg (·*(p.2*q.2)) e
   grind
  exact Int.eq_of_mul_eq_mul_right (Int.mul_ne_zero h0 h0') hh
 obtain ⟨e1,e2⟩:=red_uniq hp.gcd hq.gcd hp.pos hq.pos h
 exact Prod.ext e1 e2
attribute [local irreducible] yA semH semC qLen qNil qIad qSlc qIdx yW yI xA appX appI slcX awpF yP xH xopF xM qval lval seqQ xJ xY xU xR cnd arith IntKind.wrap
end Go.Proofs.Ytokckcnfojjpjaa

namespace Go.Proofs.Ytokckcnfojjpjaa
open Go.RowKit
set_option maxRecDepth 20000
section
variable {P X Y head x2 xl top next yl q rest:Nat}
theorem est_over' (hP:0<P) (hX:X=(head*4294967296+x2)*P+xl) (hY:Y=(top*4294967296+next)*P+yl) (hyl:yl<P) (hn:next<4294967296) (hq:q*top+rest=head) (h:q≤rest):q*Y≤X:=by
 have h0:Y≤(top+1)*4294967296*P:=by
  rw [hY]
  have h1:(top*4294967296+next+1)*P≤(top+1)*4294967296*P:=Nat.mul_le_mul_right P (by omega)
  rw [Nat.add_mul _ 1,Nat.one_mul] at h1
  omega
 have h1:=Nat.mul_le_mul_left q h0
 have h2:q*((top+1)*4294967296*P)=(q*top+q)*4294967296*P:=by
  rw [←Nat.mul_assoc,←Nat.mul_assoc,Nat.mul_add,Nat.mul_one]
 have h3:(q*top+q)*4294967296*P≤(head*4294967296+x2)*P:=Nat.mul_le_mul_right P (by omega)
 rw [hX]
 omega
theorem head_le (hP:0<P) (hX:X=(head*4294967296+x2)*P+xl) (hY:Y=(top*4294967296+next)*P+yl) (hyl:yl<P) (h:X<Y*4294967296):head≤top*4294967296+next:=by
 rcases Nat.lt_or_ge (top*4294967296+next) head with h1 | h1
 ·exfalso
  have h2:(top*4294967296+next+1)*4294967296*P≤head*4294967296*P:=Nat.mul_le_mul_right P (Nat.mul_le_mul_right _ h1)
  have h3:(top*4294967296+next+1)*4294967296*P=(top*4294967296+next)*P*4294967296+P*4294967296:=by grind
  have h4:(head*4294967296+x2)*P=head*4294967296*P+x2*P:=Nat.add_mul ..
  have h5:Y*4294967296=(top*4294967296+next)*P*4294967296+yl*4294967296:=by rw [hY,Nat.add_mul]
  omega
 ·exact h1
end
theorem quo_le {head top next:Nat} (h:head≤top*4294967296+next) (h1:2147483648≤top) (h2:next<4294967296):head / top≤4294967297:=by
 have h3:head<4294967298*top:=by omega
 have:=(Nat.div_lt_iff_lt_mul (by omega:0<top)).2 h3
 omega
theorem sub_i64 {x s bo:Nat} (hx:x<4294967296) (hs:s<4294967296) (hb:bo≤1):∃ (d:Int) (w b':Nat),arith .sub .i64 (arith .sub .i64 (x:Int) (bo:Int)) (s:Int)=d∧IntKind.u32.wrap d=(w:Int)∧(d<0↔b'=1)∧w<4294967296∧b'≤1∧x+4294967296*b'=w+s+bo:=by
 have e:arith .sub .i64 (arith .sub .i64 (x:Int) (bo:Int)) (s:Int)=(x:Int) - bo - s:=by
  rw [uP,uP,yG (n:=(x:Int) - bo) (by omega) (by omega),yG (by omega) (by omega)]
 rcases Nat.lt_or_ge x (s+bo) with h | h
 ·exact ⟨_,4294967296+x - s - bo,1,e,by rw [xN]; omega,by omega,by omega,by omega,by omega⟩
 ·exact ⟨_,x - s - bo,0,e,by rw [xN]; omega,by omega,by omega,by omega,by omega⟩
theorem i64N (a:Nat) (h:a<9223372036854775808):IntKind.i64.wrap (a:Int)=(a:Int):=yG (by omega) (by omega)
def ovr (l:List Nat) (s i:Nat):Nat:=match i with
 | 0 => 0
 | i+1 => at0 l i*2 ^ s / 4294967296
theorem bZ {p v a x s c w:Nat} (h:v+p*c=a*2 ^ s) (hw:w=x*2 ^ s % 4294967296+c):v+p*w+p*4294967296*(x*2 ^ s / 4294967296)=(a+p*x)*2 ^ s:=by
 have e:=Nat.div_add_mod (x*2 ^ s) 4294967296
 have e2:(a+p*x)*2 ^ s=a*2 ^ s+p*(x*2 ^ s):=by rw [Nat.add_mul,Nat.mul_assoc]
 rw [e2,←h,hw]
 generalize x*2 ^ s % 4294967296=r at e ⊢
 generalize x*2 ^ s / 4294967296=q at e ⊢
 rw [←e]
 grind
theorem ovr_shr {x s:Nat} (hs:s≤31):x / 2 ^ (32 - s)=x*2 ^ s / 4294967296:=by
 have hB:4294967296=2 ^ (32 - s)*2 ^ s:=by rw [←Nat.pow_add,show 32 - s+s=32 by omega]
 rw [hB,Nat.mul_div_mul_right _ _ (Nat.pow_pos (by decide))]
theorem up_word {x y s:Nat} (hs:s≤31) (hx:x<4294967296) (hy:y<4294967296):arith .or .u32 ((x*2 ^ s % 4294967296:Nat):Int) ((y*2 ^ s / 4294967296:Nat):Int)=((x*2 ^ s % 4294967296+y*2 ^ s / 4294967296:Nat):Int)∧x*2 ^ s % 4294967296+y*2 ^ s / 4294967296<4294967296:=by
 obtain ⟨m,q1,_,_⟩:=shl_parts hs hx
 obtain ⟨_,_,q2,_⟩:=shl_parts hs hy
 obtain ⟨r1,r2⟩:=or_u32' (lo:=y*2 ^ s / 4294967296) (m:=m) (s:=s) (by omega) q2 (by rw [←q1]; exact Nat.mod_lt _ (by decide))
 rw [q1]
 refine ⟨?_,by omega⟩
 have ec:arith .or .u32 ((m*2 ^ s:Nat):Int) ((y*2 ^ s / 4294967296:Nat):Int)=arith .or .u32 ((y*2 ^ s / 4294967296:Nat):Int) ((m*2 ^ s:Nat):Int):=by
  show IntKind.u32.wrap ((BitVec.ofInt 32 ((m*2 ^ s:Nat):Int) ||| BitVec.ofInt 32 ((y*2 ^ s / 4294967296:Nat):Int)).toNat:Int)=IntKind.u32.wrap ((BitVec.ofInt 32 ((y*2 ^ s / 4294967296:Nat):Int) ||| BitVec.ofInt 32 ((m*2 ^ s:Nat):Int)).toNat:Int)
  rw [BitVec.or_comm]
 rw [ec,r1,Nat.add_comm]
theorem shlU (x s:Nat) (hs:s≤32):IntKind.u32.wrap (((x:Nat):Int)*2 ^ (min ((s:Nat):Int).toNat IntKind.u32.bits))=((x*2 ^ s % 4294967296:Nat):Int):=by
 rw [Int.toNat_natCast,show min s IntKind.u32.bits=s from Nat.min_eq_left (by show s≤32; omega),show ((x:Nat):Int)*2 ^ s=((x*2 ^ s:Nat):Int) by simp,u32N]
theorem shrU (x s:Nat) (hs:s≤32):((x:Nat):Int).fdiv (2 ^ (min ((s:Nat):Int).toNat IntKind.u32.bits))=((x / 2 ^ s:Nat):Int):=by
 rw [Int.toNat_natCast,show min s IntKind.u32.bits=s from Nat.min_eq_left (by show s≤32; omega),Int.fdiv_eq_ediv_of_nonneg _ (by exact_mod_cast Nat.zero_le (2 ^ s))]
 simp
theorem above_nought {l:List Nat} {n:Nat} (h:val l<4294967296 ^ n) (hn:n<l.length):val (l.take n)=val l∧at0 l n=0:=by
 have hs:=sX l n
 rw [show (l.take n).length=n by simp; omega,uY hn] at hs
 have hz:at0 l n+4294967296*val (l.drop (n+1))=0:=by
  rcases Nat.eq_zero_or_pos (at0 l n+4294967296*val (l.drop (n+1))) with h1 | h1
  ·exact h1
  ·have:=Nat.mul_le_mul_left (4294967296 ^ n) h1
   simp only [val] at hs
   omega
 simp only [val] at hs
 rw [hz,Nat.mul_zero,Nat.add_zero] at hs
 exact ⟨hs.symm,by omega⟩
theorem app_copy {H:Hp} {el:TypeId} {x:Option V} {K:V→Hp→Prop} {c:C} {l:List Nat} (h:x=some (.c c)) (hc:Wd c l) (hl:l.length<4294967296) (k0:l=[]→K (.c .nilSl) H) (k:l≠[]→K (.c (.sl H.length 0 l.length none 1)) (H++[.live ⟨l.map W,el,.rw⟩])):appX H el 1 4 (some (.c .nilSl)) x K:=by
 subst h
 cases hc with
 | nil =>
  refine xF (by rfl) ?_
  exact jV (by rfl) (k0 rfl)
 | imm =>
  refine xF (by simp) ?_
  by_cases h0:l=[]
  ·subst h0
   exact jV (by rfl) (k0 rfl)
  ·have hp:=List.length_pos_iff.2 h0
   have e:(l.map W).take (l.length*1)=l.map W:=List.take_of_length_le (by simp)
   refine jJ ?_ (xF ?_ (by rw [e]; exact k h0))
   ·cases hb:Nat.beq l.length 0 with
    | false => rfl
    | true =>
     have:=Nat.eq_of_beq_eq_true hb
     omega
   ·rw [Bool.and_eq_true]
    exact ⟨yE.2 (by omega),yE.2 (by omega)⟩
def QWK (A B n:Nat) (u:V):Prop:=∃ c l d m,u=.tup [.c c,.c d]∧Wd c l∧OkW l∧val l=A / B∧l.length≤n+1∧Wd d m∧OkW m∧val m=A % B∧m.length≤n+1
theorem QWK.fz {A B n:Nat} {c d c' d':C} {l m:List Nat} {H:Hp} (f1:Fz (·≠.bor) H c c') (f2:Fz (·≠.bor) H d d') (h1:Wd c' l) (h2:OkW l) (h3:val l=A / B) (h4:l.length≤n+1) (h5:Wd d' m) (h6:OkW m) (h7:val m=A % B) (h8:m.length≤n+1):∃ e,FzV H (.tup [.c c,.c d]) e∧QWK A B n e :=
 ⟨_,.tup (.cons (.c f1) (.cons (.c f2) .nil)),c',l,d',m,rfl,h1,h2,h3,h4,h5,h6,h7,h8⟩
attribute [local irreducible] yA semH semC qLen qNil qIad qSlc qIdx yW yI xA appX appI slcX awpF yP xH xopF xM qval lval seqQ xJ xY xU xR cnd arith IntKind.wrap
theorem num_quoWords_less {c d:C} {a b:List Nat} (hc:Wd c a) (hd:Wd d b) (na:Norm a) (nb:Norm b) (hl:a.length<1073741824) (hv:val a<val b):semC Try.prog n_num_quoWords [.c c,.c d] (QWK (val a) (val b) a.length):=by
 refine yD ok_num_quoWords rfl (show HFVs [.c c,.c d] from ⟨hc.hf,hd.hf,trivial⟩) ?_
 refine go2 ?_
 refine yB (uU hc hd na.1 nb.1 (by omega)) (fun u hu => ?_)
 obtain ⟨r,rfl,r1,r2,r3⟩:=hu
 have hr:r<0:=by
  rcases Nat.lt_trichotomy a.length b.length with h | h | h
  ·rw [r1 h]
   decide
  ·rw [r3 h]
   exact (by unfold sgn; rw [if_pos (by omega)]; decide)
  ·have:=norm_lt nb na h
   omega
 refine go2 ?_
 cases hq:yA Cm.lss r 0
 ·simp [yA] at hq
  omega
 ·refine go2 ?_
  refine app_copy (l:=a) (by rfl) hc (by omega) (fun h0 => ?_) (fun h0 => ?_)
  ·refine go2 ?_
   exact QWK.fz (.hf trivial) (.hf trivial) .nil (fun x hx => by cases hx) (by rw [Nat.div_eq_of_lt hv]; rfl) (by simp) .nil (fun x hx => by cases hx) (by rw [Nat.mod_eq_of_lt hv,h0]) (by simp)
  ·refine go2 ?_
   exact QWK.fz (.hf trivial) (vU a (by rfl) (by simp) (by simp) rfl (by exact List.take_of_length_le (by simp))) .nil (fun x hx => by cases hx) (by rw [Nat.div_eq_of_lt hv]; rfl) (by simp) (.imm a) na.1 (by rw [Nat.mod_eq_of_lt hv]) (by omega)
theorem num_quoWords_short {c d:C} {a:List Nat} {b:Nat} (hc:Wd c a) (hd:Wd d [b]) (na:Norm a) (nb:Norm [b]) (hl:a.length<1073741824) (hv:¬ val a<val [b]):semC Try.prog n_num_quoWords [.c c,.c d] (QWK (val a) (val [b]) a.length):=by
 refine yD ok_num_quoWords rfl (show HFVs [.c c,.c d] from ⟨hc.hf,hd.hf,trivial⟩) ?_
 have hb0:b≠0:=by simpa [at0] using nb.2 (by simp)
 have hbB:b<4294967296:=nb.1 b (by simp)
 have hL:[b].length=1:=rfl
 have e0:val [b]=b:=by simp [val]
 rw [e0] at hv ⊢
 have la:1≤a.length:=by
  rcases Nat.eq_zero_or_pos a.length with h | h
  ·have:a=[]:=List.length_eq_zero_iff.1 h
   subst this
   simp [val] at hv
   omega
  ·exact h
 refine go2 ?_
 refine yB (uU hc hd na.1 nb.1 (by omega)) (fun u hu => ?_)
 obtain ⟨r,rfl,r1,r2,r3⟩:=hu
 have hr:0≤r:=by
  rcases Nat.lt_trichotomy a.length [b].length with h | h | h
  ·omega
  ·rw [r3 h,e0]
   unfold sgn
   split
   ·omega
   ·split <;> omega
  ·rw [r2 h]
   decide
 refine go2 ?_
 cases hq:yA Cm.lss r 0
 case true =>
  simp [yA] at hq
  omega
 refine go2 ?_
 refine c_t (by simp [yA]) ?_
 refine go2 ?_
 refine vQ (by rfl) (by rfl) ⟨by omega,by omega,by omega,by omega⟩ ?_
 rw [Int.toNat_natCast,zeros]
 refine go2 ?_
 rw [bN a.length (by omega) la]
 refine yX (fun n vs H => ∃ (j rest:Nat) (out:List Nat),vs=[.c c,.c d,.c (.sl 0 0 a.length (some a.length) 1),u64 rest,i64 ((j:Int) - 1)]∧H=[.live ⟨out.map W,xB,.rw⟩]∧n=j∧j≤a.length∧out.length=a.length∧OkW out∧rest<b∧val (a.drop j)=val (out.drop j)*b+rest) (by rfl) ⟨a.length,0,_,?_,rfl,rfl,Nat.le_refl _,by simp,fun x hx => by simp at hx; omega,by omega,by simp [val]⟩ ?_
 ·rw [show ((a.length - 1:Nat):Int)=(a.length:Int) - 1 by omega]
  rfl
 rintro n vs H ⟨j,rest,out,rfl,rfl,rfl,j1,j2,j3,j4,j5⟩
 refine go2 ?_
 cases hq2:yA Cm.geq ((n:Int) - 1) 0
 ·simp [yA] at hq2
  have ej:n=0:=by omega
  subst ej
  rw [List.drop_zero,List.drop_zero] at j5
  refine go2 ?_
  rw [u32N,Nat.mod_eq_of_lt (by omega:rest<4294967296)]
  have hb1:0<b:=by omega
  refine QWK.fz (vU out (by rfl) (by simp) (by simp) j2.symm (by rw [←j2]; exact List.take_of_length_le (by simp))) (vU [rest] (by rfl) (by simp) (by simp) rfl rfl) (.imm out) j3 ?_ (by omega) (.imm [rest]) (fun x hx => by simp at hx; omega) ?_ (by simp)
  ·rw [j5,Nat.mul_comm,Nat.mul_add_div hb1,Nat.div_eq_of_lt j4,Nat.add_zero]
  ·rw [j5,Nat.mul_comm,Nat.mul_add_mod,Nat.mod_eq_of_lt j4]
   simp [val]
 ·simp [yA] at hq2
  obtain ⟨i,rfl⟩:∃ i,n=i+1:=⟨n - 1,by omega⟩
  rw [show ((i+1:Nat):Int) - 1=(i:Int) by omega]
  have ga:=na.1.get i
  obtain ⟨s1,s2,s3⟩:=short_round (j:=i) na.1 (by omega) hbB j4 (by omega) (by omega) j5
  refine go2 ?_
  rw [Int.toNat_natCast,wT _ (by omega:at0 a i<18446744073709551616),shl32N _ (by omega),or_words (by omega) ga]
  refine go2 ?_
  rw [show at0 [b] (0:Int).toNat=b from rfl,wT _ (by omega:b<18446744073709551616)]
  refine q_ar (by rfl) (by rfl) (by simp [needs]; omega) ?_
  rw [quoN _ _ (by omega)]
  refine go2 ?_
  rw [u32N,Nat.mod_eq_of_lt s1]
  refine yL (by rfl) (by rfl) (by omega) (by omega) ?_
  refine go2 ?_
  refine wM (k:=i) (by rfl) (by rfl) (by omega) (by omega) ?_
  refine go2 ?_
  rw [show at0 [b] (0:Int).toNat=b from rfl,wT _ (by omega:b<18446744073709551616)]
  refine q_ar (by rfl) (by rfl) (by simp [needs]; omega) ?_
  rw [remN]
  refine go2 ?_
  refine l_n (by rfl) (by omega) ⟨i,_,_,?_,rfl,rfl,by omega,by simp [j2],j3.set s1,s3,s2⟩
  rw [show arith .sub .i64 ((i:Nat):Int) 1=(i:Int) - 1 by rw [uP,yG (by omega) (by omega)]]
  rfl
end Go.Proofs.Ytokckcnfojjpjaa

namespace Go.Proofs.Ytokckcnfojjpjaa
open Go.RowKit
set_option maxRecDepth 20000
theorem uH (n:Nat):4294967296 ^ (n+1)=4294967296 ^ n*4294967296:=Nat.pow_succ ..
theorem shrU' (x s:Nat) (hs:s≤32):((x:Nat):Int).fdiv (2 ^ (min s IntKind.u32.bits))=((x / 2 ^ s:Nat):Int):=by
 have:=shrU x s hs
 rwa [Int.toNat_natCast] at this
structure EstF (xs yl:List Nat) (k:Nat):Prop where
 start:(at0 xs (k+1)*4294967296+at0 xs k) / at0 yl k≤4294967297
 lo:val xs / val yl≤(at0 xs (k+1)*4294967296+at0 xs k) / at0 yl k
 big:∀ q,4294967296≤q→val xs / val yl≤q - 1
 round:∀ q rest,q*at0 yl k+rest=at0 xs (k+1)*4294967296+at0 xs k→q*at0 yl (k - 1) > rest*4294967296+at0 xs (k - 1)→val xs / val yl≤q - 1∧1≤q
 fin:∀ q rest,q*at0 yl k+rest=at0 xs (k+1)*4294967296+at0 xs k→val xs / val yl≤q→q<4294967296→q*at0 yl (k - 1)≤rest*4294967296+at0 xs (k - 1)→Est (val xs) (val yl) q
 over:∀ q rest,q*at0 yl k+rest=at0 xs (k+1)*4294967296+at0 xs k→val xs / val yl≤q→q≤rest→Est (val xs) (val yl) q
 lt:val xs / val yl<4294967296
 pos:0<val yl
theorem est_facts {xs yl:List Nat} {k:Nat} (lk:yl.length=k+1) (lx:xs.length=k+2) (h1:1≤k) (ox:OkW xs) (oy:OkW yl) (htop:2147483648≤at0 yl k) (hlt:val xs<val yl*4294967296):EstF xs yl k:=by
 have gn:=oy.get (k - 1)
 have g2:=ox.get (k - 1)
 have hP:0<4294967296 ^ (k - 1):=Nat.pow_pos (by decide)
 have hY:=val_top2 (l:=yl) (m:=k - 1) (by omega)
 have hX:=val_top3 (l:=xs) (m:=k - 1) (by omega)
 rw [show k - 1+1=k by omega] at hY hX
 rw [show k - 1+2=k+1 by omega] at hX
 have hyl:=sP (oy.take (k - 1))
 have hxl:=sP (ox.take (k - 1))
 rw [show (yl.take (k - 1)).length=k - 1 by simp; omega] at hyl
 rw [show (xs.take (k - 1)).length=k - 1 by simp; omega] at hxl
 have hY0:0<val yl:=by
  rcases Nat.eq_zero_or_pos (val yl) with h | h
  ·rw [h] at hlt
   omega
  ·exact h
 have hQ:val xs / val yl<4294967296:=by
  rw [Nat.div_lt_iff_lt_mul hY0,Nat.mul_comm]
  exact hlt
 have hQY:val xs / val yl*val yl≤val xs:=Nat.div_mul_le_self _ _
 refine ⟨quo_le (head_le hP hX hY hyl hlt) htop gn,(Nat.le_div_iff_mul_le (by omega)).2 (est_start hP hX g2 hxl hY hQY),fun q h => Nat.le_trans (Nat.le_of_lt_succ hQ) (by omega),fun q rest e1 e3 => ?_,fun q rest e1 e2 e3 e4 => ⟨e2,est_end hP hX hY hyl (by omega) e1 (by omega) e4,e3⟩,fun q rest e1 e2 e4 => ?_,hQ,hY0⟩
 ·have h1:val xs / val yl<q:=(Nat.div_lt_iff_lt_mul hY0).2 (est_round hP hX hxl hY e1 e3)
  exact ⟨Nat.le_sub_one_of_lt h1,Nat.lt_of_le_of_lt (Nat.zero_le _) h1⟩
 ·have h1:=est_over' hP hX hY hyl gn e1 e4
  have h3:q≤val xs / val yl:=(Nat.le_div_iff_mul_le hY0).2 h1
  exact ⟨e2,Nat.le_trans h1 (Nat.le_add_right _ _),Nat.lt_of_le_of_lt h3 hQ⟩
theorem round_split {xs out:List Nat} {i k Y T:Nat} (ox:OkW xs) (hl:i+k+1≤xs.length) (hY:0<Y) (hYk:Y<4294967296 ^ k) (h1:val xs+4294967296 ^ (i+1)*val (out.drop (i+1))*Y=T) (h2:val (xs.drop (i+1))<Y) (hi:i<out.length) :
  ∃ pre seg post:List Nat,xs=pre++seg++post∧pre.length=i∧seg.length=k+1∧OkW pre∧OkW seg∧OkW post∧val seg<Y*4294967296∧∀ seg':List Nat,seg'.length=k+1→val seg'=val seg % Y→val (pre++seg'++post)+4294967296 ^ i*val ((out.set i (val seg / Y)).drop i)*Y=T∧val ((pre++seg'++post).drop i)<Y:=by
 obtain ⟨q1,q2⟩:=parts_round (i:=i) (k:=k) (out:=out) ox hl hY hYk h1 h2 hi
 exact ⟨_,_,_,(parts_eq xs i k).symm,by simp; omega,by simp; omega,ox.take _,(ox.drop i).take _,ox.drop _,q1,q2⟩
theorem top_great {b vl:List Nat} {s k:Nat} (nb:OkW b) (hk:b.length=k+1) (n2:2147483648≤at0 b k*2 ^ s) (ov:OkW vl) (hv:vl.length=k+1) (e:val vl=val b*2 ^ s):2147483648*4294967296 ^ k≤val vl∧2147483648≤at0 vl k:=by
 have eb:=yF b k
 rw [xS (by omega)] at eb
 have ev:=yF vl k
 rw [xS (by omega)] at ev
 have hlo:=sP (ov.take k)
 rw [show (vl.take k).length=k by simp; omega] at hlo
 have h1:4294967296 ^ k*2147483648≤4294967296 ^ k*(at0 b k*2 ^ s):=Nat.mul_le_mul_left _ n2
 have h2:val b*2 ^ s=val (b.take k)*2 ^ s+4294967296 ^ k*(at0 b k*2 ^ s):=by rw [eb,Nat.add_mul,Nat.mul_assoc]
 refine ⟨by rw [Nat.mul_comm]; omega,?_⟩
 rcases Nat.lt_or_ge (at0 vl k) 2147483648 with h | h
 ·have:=Nat.mul_le_mul_left (4294967296 ^ k) h
  rw [Nat.mul_succ] at this
  omega
 ·exact h
theorem pI {a b:List Nat} (h1:OkW a) (h2:OkW b):OkW (a++b):=fun x hx => (List.mem_append.1 hx).elim (h1 x) (h2 x)
attribute [local irreducible] yA semH semC qLen qNil qIad qSlc qIdx yW yI xA appX appI slcX awpF yP xH xopF xM qval lval seqQ xJ xY xU xR cnd arith IntKind.wrap
set_option maxHeartbeats 8000000 in
theorem num_quoWords_long {c d:C} {a b:List Nat} (hc:Wd c a) (hd:Wd d b) (na:Norm a) (nb:Norm b) (h2:2≤b.length) (hl:a.length<1073741824) (hv:¬ val a<val b):semC Try.prog n_num_quoWords [.c c,.c d] (QWK (val a) (val b) a.length):=by
 refine yD ok_num_quoWords rfl (show HFVs [.c c,.c d] from ⟨hc.hf,hd.hf,trivial⟩) ?_
 have hb0:b≠[]:=fun e => by rw [e] at h2; simp at h2
 have hab:b.length≤a.length:=by
  rcases Nat.lt_or_ge a.length b.length with h | h
  ·exact absurd (norm_lt na nb h) hv
  ·exact h
 have hvb:=val_pos nb hb0
 refine go2 ?_
 refine yB (uU hc hd na.1 nb.1 (by omega)) (fun u hu => ?_)
 obtain ⟨r,rfl,r1,r2,r3⟩:=hu
 have hr:0≤r:=by
  rcases Nat.lt_trichotomy a.length b.length with h | h | h
  ·omega
  ·rw [r3 h]
   unfold sgn
   split
   ·omega
   ·split <;> omega
  ·rw [r2 h]
   decide
 clear r1 r2 r3
 refine go2 ?_
 cases hq:yA Cm.lss r 0
 case true =>
  simp [yA] at hq
  omega
 clear hq hr
 refine go2 ?_
 cases hq1:yA Cm.eql (b.length:Int) 1
 case true =>
  simp [yA] at hq1
  omega
 clear hq1
 refine go2 ?_
 rw [bN b.length (by omega) (by omega)]
 refine go2 ?_
 rw [Int.toNat_natCast]
 have gtop:=nb.2 hb0
 have gb:=nb.1.get (b.length - 1)
 refine yB (bits_LeadingZeros32 gb (by omega)) (fun u hu => ?_)
 obtain ⟨s,rfl,n1,n2,n3⟩:=hu
 refine go2 ?_
 rw [nn n1,xL a.length (by omega)]
 refine vQ (by rfl) (by rfl) ⟨by omega,by omega,by omega,by omega⟩ ?_
 rw [Int.toNat_natCast,zeros]
 refine go2 ?_
 refine vQ (by rfl) (by rfl) ⟨by omega,by omega,by omega,by omega⟩ ?_
 rw [Int.toNat_natCast,zeros]
 refine go2 ?_
 refine yX (fun z vs H => ∃ (i:Nat) (vl:List Nat),vs=[.c c,.c d,u64 s,.c (.sl 0 0 (a.length+1) (some (a.length+1)) 1),.c (.sl 1 0 b.length (some b.length) 1),i64 b.length,i64 i]∧H=[.live ⟨(List.replicate (a.length+1) 0).map W,xB,.rw⟩,.live ⟨vl.map W,xB,.rw⟩]∧z=b.length - i∧i≤b.length∧vl.length=b.length∧OkW vl∧val (vl.take i)+4294967296 ^ i*ovr b s i=val (b.take i)*2 ^ s) (by rfl) ⟨0,_,rfl,rfl,rfl,by omega,by simp,fun x hx => by simp at hx; omega,by simp [val,ovr]⟩ ?_
 rintro z vs H ⟨i,vl,rfl,rfl,rfl,v1,v2,v3,v4⟩
 refine go2 ?_
 cases hq2:yA Cm.lss (i:Int) (b.length:Int)
 case true =>
  simp [yA] at hq2
  have gi:=nb.1.get i
  refine go2 ?_
  rw [Int.toNat_natCast,shlU _ _ (by omega)]
  refine yL (by rfl) (by rfl) (by omega) (by omega) ?_
  refine go2 ?_
  refine wM (k:=i) (by rfl) (by rfl) (by omega) (by omega) ?_
  refine go2 ?_
  cases hi0:yA Cm.gtr (i:Int) 0
  case false =>
   simp [yA] at hi0
   subst hi0
   refine go2 ?_
   rw [xL 0 (by omega)]
   refine l_n (by rfl) (by omega) ⟨0+1,_,rfl,rfl,rfl,by omega,by simp [v2],v3.set (Nat.mod_lt _ (by decide)),?_⟩
   rw [xP (by omega),yF b,uH 0]
   exact bZ v4 rfl
  case true =>
   simp [yA] at hi0
   obtain ⟨j,rfl⟩:∃ j,i=j+1:=⟨i - 1,by omega⟩
   have gj:=nb.1.get j
   obtain ⟨w1,w2⟩:=up_word (y:=at0 b j) n1 gi gj
   refine go2 ?_
   cases hs0:yA Cm.gtr (s:Int) 0
   case false =>
    simp [yA] at hs0
    subst hs0
    have hz:ovr b 0 (j+1)=0:=by
     show at0 b j*2 ^ 0 / 4294967296=0
     rw [Nat.pow_zero,Nat.mul_one]
     exact Nat.div_eq_of_lt gj
    refine go2 ?_
    rw [xL (j+1) (by omega)]
    refine l_n (by rfl) (by omega) ⟨j+1+1,_,rfl,rfl,rfl,by omega,by simp [v2],v3.set (Nat.mod_lt _ (by decide)),?_⟩
    rw [xP (by omega),yF b,uH (j+1)]
    exact bZ v4 (by rw [hz]; rfl)
   case true =>
    simp only [yA,yE] at hs0
    refine go2 ?_
    refine yL (by rfl) (by rfl) (by omega) (by omega) ?_
    refine go2 ?_
    refine vI (k:=j+1) (by rfl) (by omega) (by simp; omega) ?_
    refine go2 ?_
    rw [bN (j+1) (by omega) (by omega),show j+1 - 1=j by omega]
    refine wW (by rfl) (by rfl) hd (by omega) (by omega) ?_
    refine go2 ?_
    rw [show arith .sub .u64 32 (s:Int)=((32 - s:Nat):Int) from subN 32 s (by omega) (by omega)]
    refine go2 ?_
    simp only [Int.toNat_natCast]
    rw [shrU' _ _ (by omega),ovr_shr n1,show at0 (vl.set (j+1) (at0 b (j+1)*2 ^ s % 4294967296)) (j+1)=at0 b (j+1)*2 ^ s % 4294967296 by simp [at0,show j+1<vl.length by omega],w1]
    refine yL (by rfl) (by rfl) (by omega) (by omega) ?_
    refine go2 ?_
    refine wM (k:=j+1) (by rfl) (by rfl) (by omega) (by simp; omega) ?_
    refine go2 ?_
    rw [xL (j+1) (by omega)]
    refine l_n (by rfl) (by omega) ⟨j+1+1,_,rfl,rfl,rfl,by omega,by simp [v2],by rw [List.set_set]; exact v3.set w2,?_⟩
    rw [List.set_set,xP (by omega),yF b,uH (j+1)]
    exact bZ v4 rfl
 simp [yA] at hq2
 have ei:i=b.length:=by omega
 subst ei
 have hz:ovr b s b.length=0:=by
  obtain ⟨j,hj⟩:∃ j,b.length=j+1:=⟨b.length - 1,by omega⟩
  rw [hj]
  show at0 b j*2 ^ s / 4294967296=0
  rw [show j=b.length - 1 by omega]
  exact Nat.div_eq_of_lt n3
 rw [hz,Nat.mul_zero,Nat.add_zero,xS (l:=vl) (by omega),xS (Nat.le_refl _)] at v4
 clear hz v1 hq2
 refine go2 ?_
 refine yX (fun z vs H => ∃ (i:Nat) (ul:List Nat),vs=[.c c,u64 s,.c (.sl 0 0 (a.length+1) (some (a.length+1)) 1),.c (.sl 1 0 b.length (some b.length) 1),i64 ((a.length+1:Nat):Int),i64 i]∧H=[.live ⟨ul.map W,xB,.rw⟩,.live ⟨vl.map W,xB,.rw⟩]∧z=a.length+1 - i∧i≤a.length+1∧ul.length=a.length+1∧OkW ul∧val (ul.take i)+4294967296 ^ i*ovr a s i=val (a.take i)*2 ^ s∧∀ k,i≤k→at0 ul k=0) (by rfl) ⟨0,_,rfl,rfl,rfl,by omega,by simp,fun x hx => by simp at hx; omega,by simp [val,ovr],fun k _ => sI _ k⟩ ?_
 rintro z vs H ⟨i,ul,rfl,rfl,rfl,u1,u2,u3,u4,u5⟩
 refine go2 ?_
 cases hq2:yA Cm.lss (i:Int) ((a.length+1:Nat):Int)
 case true =>
  simp only [yA,yE] at hq2
  have gi:=na.1.get i
  refine go2 ?_
  cases hq3:yA Cm.lss (i:Int) (a.length:Int)
  case true =>
   simp only [yA,yE] at hq3
   refine go2 ?_
   rw [Int.toNat_natCast,shlU _ _ (by omega)]
   refine yL (by rfl) (by rfl) (by omega) (by omega) ?_
   refine go2 ?_
   refine wM (k:=i) (by rfl) (by rfl) (by omega) (by omega) ?_
   refine go2 ?_
   cases hi0:yA Cm.gtr (i:Int) 0
   case false =>
    simp [yA] at hi0
    subst hi0
    refine go2 ?_
    rw [xL 0 (by omega)]
    refine l_n (by rfl) (by omega) ⟨0+1,_,rfl,rfl,rfl,by omega,by simp [u2],u3.set (Nat.mod_lt _ (by decide)),?_,fun k hk => ?_⟩
    ·rw [xP (by omega),yF a,uH 0]
     exact bZ u4 rfl
    ·rw [wU (by omega)]; exact u5 k (by omega)
   case true =>
    simp [yA] at hi0
    obtain ⟨j,rfl⟩:∃ j,i=j+1:=⟨i - 1,by omega⟩
    have gj:=na.1.get j
    obtain ⟨w1,w2⟩:=up_word (y:=at0 a j) n1 gi gj
    refine go2 ?_
    cases hs0:yA Cm.gtr (s:Int) 0
    case false =>
     simp [yA] at hs0
     subst hs0
     have hz:ovr a 0 (j+1)=0:=by
      show at0 a j*2 ^ 0 / 4294967296=0
      rw [Nat.pow_zero,Nat.mul_one]
      exact Nat.div_eq_of_lt gj
     refine go2 ?_
     rw [xL (j+1) (by omega)]
     refine l_n (by rfl) (by omega) ⟨j+1+1,_,rfl,rfl,rfl,by omega,by simp [u2],u3.set (Nat.mod_lt _ (by decide)),?_,fun k hk => ?_⟩
     ·rw [xP (by omega),yF a,uH (j+1)]
      exact bZ u4 (by rw [hz]; rfl)
     ·rw [wU (by omega)]; exact u5 k (by omega)
    case true =>
     simp only [yA,yE] at hs0
     refine go2 ?_
     refine yL (by rfl) (by rfl) (by omega) (by omega) ?_
     refine go2 ?_
     refine vI (k:=j+1) (by rfl) (by omega) (by simp; omega) ?_
     refine go2 ?_
     rw [bN (j+1) (by omega) (by omega),show j+1 - 1=j by omega]
     refine wW (by rfl) (by rfl) hc (by omega) (by omega) ?_
     refine go2 ?_
     rw [show arith .sub .u64 32 (s:Int)=((32 - s:Nat):Int) from subN 32 s (by omega) (by omega)]
     refine go2 ?_
     simp only [Int.toNat_natCast]
     rw [shrU' _ _ (by omega),ovr_shr n1,show at0 (ul.set (j+1) (at0 a (j+1)*2 ^ s % 4294967296)) (j+1)=at0 a (j+1)*2 ^ s % 4294967296 by simp [at0,show j+1<ul.length by omega],w1]
     refine yL (by rfl) (by rfl) (by omega) (by omega) ?_
     refine go2 ?_
     refine wM (k:=j+1) (by rfl) (by rfl) (by omega) (by simp; omega) ?_
     refine go2 ?_
     rw [xL (j+1) (by omega)]
     refine l_n (by rfl) (by omega) ⟨j+1+1,_,rfl,rfl,rfl,by omega,by simp [u2],by rw [List.set_set]; exact u3.set w2,?_,fun k hk => ?_⟩
     ·rw [List.set_set,xP (by omega),yF a,uH (j+1)]
      exact bZ u4 rfl
     ·rw [List.set_set]; rw [wU (by omega)]
      exact u5 k (by omega)
  case false =>
   simp only [yA,yK] at hq3
   have ei:i=a.length:=by omega
   have gz:at0 a i=0:=at0_ge (by omega)
   refine go2 ?_
   cases hi0:yA Cm.gtr (i:Int) 0
   case false =>
    simp [yA] at hi0
    subst hi0
    refine go2 ?_
    rw [xL 0 (by omega)]
    refine l_n (by rfl) (by omega) ⟨0+1,_,rfl,rfl,rfl,by omega,u2,u3,?_,fun k hk => ?_⟩
    ·rw [yF ul,u5 _ (Nat.le_refl _),yF a,uH 0]
     exact bZ u4 (by rw [gz]; simp [ovr])
    ·exact u5 k (by omega)
   case true =>
    simp [yA] at hi0
    obtain ⟨j,rfl⟩:∃ j,i=j+1:=⟨i - 1,by omega⟩
    have gj:=na.1.get j
    obtain ⟨w1,w2⟩:=up_word (y:=at0 a j) n1 gi gj
    refine go2 ?_
    cases hs0:yA Cm.gtr (s:Int) 0
    case false =>
     simp [yA] at hs0
     subst hs0
     have hz:ovr a 0 (j+1)=0:=by
      show at0 a j*2 ^ 0 / 4294967296=0
      rw [Nat.pow_zero,Nat.mul_one]
      exact Nat.div_eq_of_lt gj
     refine go2 ?_
     rw [xL (j+1) (by omega)]
     refine l_n (by rfl) (by omega) ⟨j+1+1,_,rfl,rfl,rfl,by omega,u2,u3,?_,fun k hk => ?_⟩
     ·rw [yF ul,u5 _ (Nat.le_refl _),yF a,uH (j+1)]
      exact bZ u4 (by simp [gz,hz])
     ·exact u5 k (by omega)
    case true =>
     simp only [yA,yE] at hs0
     refine go2 ?_
     refine yL (by rfl) (by rfl) (by omega) (by omega) ?_
     refine go2 ?_
     refine vI (k:=j+1) (by rfl) (by omega) (by omega) ?_
     refine go2 ?_
     rw [bN (j+1) (by omega) (by omega),show j+1 - 1=j by omega]
     refine wW (by rfl) (by rfl) hc (by omega) (by omega) ?_
     refine go2 ?_
     rw [show arith .sub .u64 32 (s:Int)=((32 - s:Nat):Int) from subN 32 s (by omega) (by omega)]
     refine go2 ?_
     simp only [Int.toNat_natCast]
     rw [shrU' _ _ (by omega),ovr_shr n1,show at0 ul (j+1)=at0 a (j+1)*2 ^ s % 4294967296 by have h:=u5 _ (Nat.le_refl (j+1)); simp [h,gz],w1]
     refine yL (by rfl) (by rfl) (by omega) (by omega) ?_
     refine go2 ?_
     refine wM (k:=j+1) (by rfl) (by rfl) (by omega) (by omega) ?_
     refine go2 ?_
     rw [xL (j+1) (by omega)]
     refine l_n (by rfl) (by omega) ⟨j+1+1,_,rfl,rfl,rfl,by omega,by simp [u2],by exact u3.set w2,?_,fun k hk => ?_⟩
     ·rw [xP (by omega),yF a,uH (j+1)]
      exact bZ u4 rfl
     ·rw [wU (by omega)]
      exact u5 k (by omega)
 simp only [yA,yK] at hq2
 have ei:i=a.length+1:=by omega
 subst ei
 have hz:ovr a s (a.length+1)=0:=by
  show at0 a a.length*2 ^ s / 4294967296=0
  rw [at0_ge (Nat.le_refl _)]
  simp
 rw [hz,Nat.mul_zero,Nat.add_zero,xS (l:=ul) (by omega),xS (l:=a) (by omega)] at u4
 clear hz u1 hq2 u5
 refine go2 ?_
 obtain ⟨k,hk⟩:∃ k,b.length=k+1:=⟨b.length - 1,by omega⟩
 obtain ⟨m,hm⟩:∃ m,a.length=m+(k+1):=⟨a.length - b.length,by omega⟩
 obtain ⟨t1,t2⟩:=top_great (k:=k) (s:=s) nb.1 hk (by rwa [show b.length - 1=k by omega] at n2) v3 (by omega) v4
 have hst:val (ul.drop (m+1))<val vl:=parts_start (k:=k+1) na.1 n1 (by omega) (by omega) u2 u4 (by simpa using t1)
 have hYk:=sP v3
 have hY0:0<val vl:=Nat.lt_of_le_of_lt (Nat.zero_le _) hst
 rw [v2,hk] at hYk
 rw [hk] at v2
 rw [subI a.length b.length (by omega) hab,xL (a.length - b.length) (by omega),show a.length - b.length=m by omega,hk]
 refine vQ (by rfl) (by rfl) ⟨by omega,by omega,by omega,by omega⟩ ?_
 rw [Int.toNat_natCast,zeros]
 refine go2 ?_
 rw [subI a.length (k+1) (by omega) (by omega),show a.length - (k+1)=m by omega]
 refine yX (fun z vs H => ∃ (j:Nat) (xc out:List Nat),vs=[u64 s,.c (.sl 0 0 (a.length+1) (some (a.length+1)) 1),.c (.sl 1 0 (k+1) (some (k+1)) 1),i64 ((k+1:Nat):Int),.c (.sl 2 0 (m+1) (some (m+1)) 1),i64 ((j:Int) - 1)]∧H=[.live ⟨xc.map W,xB,.rw⟩,.live ⟨vl.map W,xB,.rw⟩,.live ⟨out.map W,xB,.rw⟩]∧z=j∧j≤m+1∧xc.length=a.length+1∧OkW xc∧out.length=m+1∧OkW out∧val xc+4294967296 ^ j*val (out.drop j)*val vl=val a*2 ^ s∧val (xc.drop j)<val vl) (by rfl) ⟨m+1,ul,_,?_,rfl,rfl,Nat.le_refl _,u2,u3,by simp,fun x hx => by simp at hx; omega,?_,hst⟩ ?_
 ·rw [show ((m:Nat):Int)=((m+1:Nat):Int) - 1 by omega]
  rfl
 ·rw [List.drop_of_length_le (by simp),u4]
  simp [val]
 clear hst u4 u3 u2 ul
 rintro z vs H ⟨j,xc,out,rfl,rfl,rfl,j1,j2,j3,j4,j5,j6,j7⟩
 refine go2 ?_
 cases hq2:yA Cm.geq ((z:Int) - 1) 0
 case true =>
  simp [yA] at hq2
  obtain ⟨i,rfl⟩:∃ i,z=i+1:=⟨z - 1,by omega⟩
  rw [show ((i+1:Nat):Int) - 1=(i:Int) by omega]
  obtain ⟨pre,seg,post,rfl,lpre,lseg,opre,oseg,opost,q1,q2⟩:=round_split (i:=i) (k:=k+1) (out:=out) j3 (by omega) hY0 hYk j6 j7 (by omega)
  have EF:=est_facts (k:=k) v2 lseg (by omega) oseg v3 t2 q1
  have hpl:pre.length+seg.length+post.length=a.length+1:=by simpa [Nat.add_assoc] using j2
  have g0:=oseg.get (k+1)
  have g1:=oseg.get k
  have g2:=oseg.get (k - 1)
  have gt:=v3.get k
  have gn:=v3.get (k - 1)
  have hXR:val seg<4294967296 ^ (k+2):=by
   have:=sP oseg
   rwa [lseg] at this
  refine go2 ?_
  rw [addI i (k+1) (by omega)]
  refine yL (by rfl) (by rfl) (by omega) (by omega) ?_
  refine go2 ?_
  refine pM (i:=k+1) (by rfl) (by omega) (by omega) ?_
  refine go2 ?_
  rw [addI i (k+1) (by omega),bN (i+(k+1)) (by omega) (by omega)]
  refine yL (by rfl) (by rfl) (by omega) (by omega) ?_
  refine go2 ?_
  refine pM (i:=k) (by rfl) (by omega) (by omega) ?_
  refine go2 ?_
  rw [wT _ (by omega:at0 seg (k+1)<18446744073709551616),wT _ (by omega:at0 seg k<18446744073709551616),shl32N _ g0,or_words g0 g1]
  refine go2 ?_
  rw [bN (k+1) (by omega) (by omega),show k+1 - 1=k by omega]
  refine yL (by rfl) (by rfl) (by omega) (by omega) ?_
  refine go2 ?_
  refine vI (k:=k) (by rfl) (by omega) (by omega) ?_
  refine go2 ?_
  rw [wT _ (by omega:at0 vl k<18446744073709551616)]
  refine q_ar (by rfl) (by rfl) (by simp [needs]; omega) ?_
  rw [quoN _ _ (by omega)]
  refine go2 ?_
  rw [bN (k+1) (by omega) (by omega),show k+1 - 1=k by omega]
  refine yL (by rfl) (by rfl) (by omega) (by omega) ?_
  refine go2 ?_
  refine vI (k:=k) (by rfl) (by omega) (by omega) ?_
  refine go2 ?_
  rw [wT _ (by omega:at0 vl k<18446744073709551616)]
  refine q_ar (by rfl) (by rfl) (by simp [needs]; omega) ?_
  rw [remN]
  refine go2 ?_
  have hmod:=Nat.mod_lt (at0 seg (k+1)*4294967296+at0 seg k) (by omega:0<at0 vl k)
  refine yX (fun z vs H => ∃ q r:Nat,vs=[u64 s,.c (.sl 0 0 (a.length+1) (some (a.length+1)) 1),.c (.sl 1 0 (k+1) (some (k+1)) 1),i64 ((k+1:Nat):Int),.c (.sl 2 0 (m+1) (some (m+1)) 1),i64 i,u64 q,u64 r]∧H=[.live ⟨(pre++seg++post).map W,xB,.rw⟩,.live ⟨vl.map W,xB,.rw⟩,.live ⟨out.map W,xB,.rw⟩]∧z=q∧q*at0 vl k+r=at0 seg (k+1)*4294967296+at0 seg k∧val seg / val vl≤q∧q≤4294967297∧r<4294967296) (by rfl) ⟨_,_,rfl,rfl,rfl,by rw [Nat.mul_comm]; exact Nat.div_add_mod _ _,EF.lo,EF.start,by omega⟩ ?_
  clear hmod
  rintro z vs H ⟨q,r,rfl,rfl,rfl,p1,p2,p3,p4⟩
  refine go2 ?_
  cases hg:yA Cm.geq (z:Int) 4294967296
  case true =>
   simp only [yA,yE] at hg
   have h1:val seg / val vl≤z - 1:=EF.big z (by omega)
   have h2:1≤z:=by omega
   refine go2 ?_
   have h3:(z - 1)*at0 vl k+(r+at0 vl k)=at0 seg (k+1)*4294967296+at0 seg k:=by
    have e1:=Nat.sub_mul z 1 (at0 vl k)
    have e2:=Nat.mul_le_mul_right (at0 vl k) h2
    omega
   rw [subN1 z (by omega) h2,bN (k+1) (by omega) (by omega),show k+1 - 1=k by omega]
   refine yL (by rfl) (by rfl) (by omega) (by omega) ?_
   refine go2 ?_
   refine vI (k:=k) (by rfl) (by omega) (by omega) ?_
   refine go2 ?_
   rw [wT _ (by omega:at0 vl k<18446744073709551616),addN _ _ (by omega)]
   cases hr2:yA Cm.geq ((r+at0 vl k:Nat):Int) 4294967296
   case false =>
    simp only [yA,yK] at hr2
    refine go2 ?_
    exact l_n (by rfl) (by omega) ⟨z - 1,r+at0 vl k,rfl,rfl,rfl,h3,h1,by omega,by omega⟩
   case true =>
    simp only [yA,yE] at hr2
    have E:=EF.over (z - 1) (r+at0 vl k) h3 h1 (by omega)
    refine go2 ?_
    refine yX (fun y vs H => ∃ (w bo carry:Nat) (cur:List Nat),vs=[u64 s,.c (.sl 0 0 (a.length+1) (some (a.length+1)) 1),.c (.sl 1 0 (k+1) (some (k+1)) 1),i64 ((k+1:Nat):Int),.c (.sl 2 0 (m+1) (some (m+1)) 1),i64 i,u64 (z - 1),i64 bo,u64 carry,i64 ((k+1:Nat):Int),i64 w]∧H=[.live ⟨(pre++cur++post).map W,xB,.rw⟩,.live ⟨vl.map W,xB,.rw⟩,.live ⟨out.map W,xB,.rw⟩]∧y=k+1 - w∧w≤k+1∧cur.length=k+2∧OkW cur∧bo≤1∧carry<4294967296∧val (cur.take w)+(z - 1)*val (vl.take w)=val (seg.take w)+4294967296 ^ w*(carry+bo)∧∀ j,w≤j→at0 cur j=at0 seg j) (by rfl) ⟨0,0,0,seg,rfl,rfl,rfl,by omega,lseg,oseg,by omega,by omega,by simp [val],fun _ _ => rfl⟩ ?_
    rintro y vs H ⟨w,bo,carry,cur,rfl,rfl,rfl,c1,c2,c3,c4,c5,c6,c7⟩
    have gc:=c3.get w
    have gv:=v3.get w
    refine go2 ?_
    cases hw:yA Cm.lss (w:Int) ((k+1:Nat):Int)
    case true =>
     simp only [yA,yE] at hw
     have hmm:(z - 1)*at0 vl w+carry<18446744073709551616:=by
      have:=Nat.mul_le_mul (Nat.le_of_lt_succ E.lt) (Nat.le_of_lt_succ gv)
      omega
     refine go2 ?_
     refine yL (by rfl) (by rfl) (by omega) (by omega) ?_
     refine go2 ?_
     refine vI (k:=w) (by rfl) (by omega) (by omega) ?_
     refine go2 ?_
     rw [wT _ (by omega:at0 vl w<18446744073709551616),mulN _ _ (by omega),addN _ _ hmm]
     refine go2 ?_
     rw [shrN,addI w i (by omega)]
     refine yL (by rfl) (by rfl) (by omega) (by omega) ?_
     refine go2 ?_
     refine pM (i:=w) (by rfl) (by omega) (by omega) ?_
     refine go2 ?_
     obtain ⟨d,w',b',e1,e2,e3,x1,x2,x3⟩:=sub_i64 (x:=at0 cur w) (s:=((z - 1)*at0 vl w+carry) % 4294967296) (bo:=bo) gc (Nat.mod_lt _ (by decide)) c4
     rw [i64N _ (by omega:at0 cur w<9223372036854775808),u32N,i64N _ (by omega:((z - 1)*at0 vl w+carry) % 4294967296<9223372036854775808),e1]
     refine go2 ?_
     rw [e2,addI w i (by omega)]
     refine yL (by rfl) (by rfl) (by omega) (by omega) ?_
     refine go2 ?_
     refine jY (i:=w) (by rfl) (by rfl) (by omega) (by omega) ?_
     refine go2 ?_
     have hrow:=sub_row (t:=(z - 1)*at0 vl w+carry) (y:=at0 vl w) c6 (Nat.add_comm _ _) x3
     cases hd:yA Cm.lss d 0
     case true =>
      simp only [yA,yE] at hd
      have hb1:=e3.1 hd
      subst hb1
      refine go2 ?_
      rw [xL w (by omega)]
      refine l_n (by rfl) (by omega) ⟨w+1,1,((z - 1)*at0 vl w+carry) / 4294967296,cur.set w w',rfl,rfl,rfl,by omega,by simp [c2],c3.set x1,by omega,by omega,?_,fun j hj => ?_⟩
      ·rw [xP (by omega),yF vl,yF seg,uH w,←c7 w (Nat.le_refl w)]
       exact hrow
      ·rw [wU (by omega)]
       exact c7 j (by omega)
     case false =>
      simp only [yA,yK] at hd
      have hb1:b'=0:=by
       rcases Nat.lt_or_ge b' 1 with h | h
       ·omega
       ·exact absurd (e3.2 (by omega)) hd
      subst hb1
      refine go2 ?_
      rw [xL w (by omega)]
      refine l_n (by rfl) (by omega) ⟨w+1,0,((z - 1)*at0 vl w+carry) / 4294967296,cur.set w w',rfl,rfl,rfl,by omega,by simp [c2],c3.set x1,by omega,by omega,?_,fun j hj => ?_⟩
      ·rw [xP (by omega),yF vl,yF seg,uH w,←c7 w (Nat.le_refl w)]
       exact hrow
      ·rw [wU (by omega)]
       exact c7 j (by omega)
    simp only [yA,yK] at hw
    have ew:w=k+1:=by omega
    subst ew
    refine go2 ?_
    rw [addI i (k+1) (by omega)]
    refine yL (by rfl) (by rfl) (by omega) (by omega) ?_
    refine go2 ?_
    refine pM (i:=k+1) (by rfl) (by omega) (by omega) ?_
    refine go2 ?_
    obtain ⟨d,w',b',e1,e2,e3,x1,x2,x3⟩:=sub_i64 (x:=at0 cur (k+1)) (s:=carry) (bo:=bo) gc c5 c4
    rw [i64N _ (by omega:at0 cur (k+1)<9223372036854775808),i64N _ (by omega:carry<9223372036854775808),e1]
    refine go2 ?_
    rw [e2,addI i (k+1) (by omega)]
    refine yL (by rfl) (by rfl) (by omega) (by omega) ?_
    refine go2 ?_
    refine jY (i:=k+1) (by rfl) (by rfl) (by omega) (by omega) ?_
    refine go2 ?_
    have hrow:=sub_row (t:=carry) (y:=0) c6 (by rw [Nat.mul_zero,Nat.add_zero]) (by rw [Nat.mod_eq_of_lt c5]; exact x3)
    rw [c7 (k+1) (Nat.le_refl _),Nat.mul_zero,Nat.add_zero,Nat.div_eq_of_lt c5,←xP (by omega),←yF seg,←uH (k+1),xS (l:=cur.set (k+1) w') (by simp; omega),xS (l:=seg) (by omega),xS (l:=vl) (by omega)] at hrow
    have ocs:OkW (cur.set (k+1) w'):=c3.set x1
    have lcs:(cur.set (k+1) w').length=k+2:=by simp [c2]
    generalize cur.set (k+1) w'=cs at hrow ocs lcs
    have hC:=sP ocs
    rw [lcs] at hC
    obtain ⟨z1,z2⟩:=word_end (q:=(z - 1)) (c:=val cs) hY0 E.lo E.hi hC hXR
    clear c1 c2 c3 c4 c5 c6 c7 gc gv e1 e2 x3
    cases hd:yA Cm.lss d 0
    case false =>
     simp only [yA,yK] at hd
     have hb1:b'=0:=by
      rcases Nat.lt_or_ge b' 1 with h | h
      ·omega
      ·exact absurd (e3.2 (by omega)) hd
     subst hb1
     obtain ⟨y1,y2⟩:=z1 hrow
     obtain ⟨y3,y4⟩:=q2 cs (by omega) y2
     refine go2 ?_
     rw [u32N,y1,Nat.mod_eq_of_lt EF.lt]
     refine yL (by rfl) (by rfl) (by omega) (by omega) ?_
     refine go2 ?_
     refine wM (k:=i) (by rfl) (by rfl) (by omega) (by omega) ?_
     refine go2 ?_
     refine l_n (by rfl) (by omega) ⟨i,pre++cs++post,out.set i (val seg / val vl),?_,rfl,rfl,by omega,by simp; omega,pI (pI opre ocs) opost,by simp [j4],j5.set EF.lt,y3,y4⟩
     rw [show arith .sub .i64 ((i:Nat):Int) 1=(i:Int) - 1 by rw [uP,yG (by omega) (by omega)]]
     rfl
    case true =>
     simp only [yA,yE] at hd
     have hb1:=e3.1 hd
     subst hb1
     obtain ⟨y1,y2,y3⟩:=z2 hrow
     refine go2 ?_
     rw [subN1 (z - 1) (by omega) y2]
     refine yX (fun y vs H => ∃ (w carry:Nat) (c2:List Nat),vs=[u64 s,.c (.sl 0 0 (a.length+1) (some (a.length+1)) 1),.c (.sl 1 0 (k+1) (some (k+1)) 1),i64 ((k+1:Nat):Int),.c (.sl 2 0 (m+1) (some (m+1)) 1),i64 i,u64 ((z - 1) - 1),u64 carry,i64 ((k+1:Nat):Int),i64 w]∧H=[.live ⟨(pre++c2++post).map W,xB,.rw⟩,.live ⟨vl.map W,xB,.rw⟩,.live ⟨out.map W,xB,.rw⟩]∧y=k+1 - w∧w≤k+1∧c2.length=k+2∧OkW c2∧carry≤1∧val (c2.take w)+4294967296 ^ w*carry=val (cs.take w)+val (vl.take w)∧∀ j,w≤j→at0 c2 j=at0 cs j) (by rfl) ⟨0,0,cs,rfl,rfl,rfl,by omega,lcs,ocs,by omega,by simp [val],fun _ _ => rfl⟩ ?_
     rintro y vs H ⟨w,carry,c2,rfl,rfl,rfl,f1,f2,f3,f4,f5,f6⟩
     have gc:=f3.get w
     have gv:=v3.get w
     refine go2 ?_
     cases hw:yA Cm.lss (w:Int) ((k+1:Nat):Int)
     case true =>
      simp only [yA,yE] at hw
      refine go2 ?_
      rw [addI w i (by omega)]
      refine yL (by rfl) (by rfl) (by omega) (by omega) ?_
      refine go2 ?_
      refine pM (i:=w) (by rfl) (by omega) (by omega) ?_
      refine go2 ?_
      refine yL (by rfl) (by rfl) (by omega) (by omega) ?_
      refine go2 ?_
      refine vI (k:=w) (by rfl) (by omega) (by omega) ?_
      refine go2 ?_
      rw [wT _ (by omega:at0 c2 w<18446744073709551616),wT _ (by omega:at0 vl w<18446744073709551616),addN _ _ (by omega),addN _ _ (by omega)]
      refine go2 ?_
      rw [u32N,addI w i (by omega)]
      refine yL (by rfl) (by rfl) (by omega) (by omega) ?_
      refine go2 ?_
      refine jY (i:=w) (by rfl) (by rfl) (by omega) (by omega) ?_
      refine go2 ?_
      rw [shrN,xL w (by omega)]
      refine l_n (by rfl) (by omega) ⟨w+1,_,c2.set w ((at0 c2 w+at0 vl w+carry) % 4294967296),rfl,rfl,rfl,by omega,by simp [f2],f3.set (Nat.mod_lt _ (by decide)),by omega,?_,fun j hj => ?_⟩
      ·rw [xP (by omega),yF vl,yF cs,uH w,←f6 w (Nat.le_refl w)]
       exact add_row f5 (by omega)
      ·rw [wU (by omega)]
       exact f6 j (by omega)
     simp only [yA,yK] at hw
     have ew:w=k+1:=by omega
     subst ew
     refine go2 ?_
     rw [addI i (k+1) (by omega)]
     refine yL (by rfl) (by rfl) (by omega) (by omega) ?_
     refine go2 ?_
     refine pM (i:=k+1) (by rfl) (by omega) (by omega) ?_
     refine go2 ?_
     rw [u32N,Nat.mod_eq_of_lt (by omega:carry<4294967296),show arith .add .u32 ((at0 c2 (k+1):Nat):Int) (carry:Int)=(((at0 c2 (k+1)+carry) % 4294967296:Nat):Int) by rw [xD,xN]; omega]
     refine yL (by rfl) (by rfl) (by omega) (by omega) ?_
     refine go2 ?_
     refine jY (i:=k+1) (by rfl) (by rfl) (by omega) (by omega) ?_
     refine go2 ?_
     have hrow2:=add_row (x:=at0 c2 (k+1)) (y:=0) f5 rfl
     rw [Nat.mul_zero,Nat.add_zero,Nat.add_zero,Nat.add_comm carry,←xP (l:=c2) (by omega),f6 (k+1) (Nat.le_refl _),←yF cs,←uH (k+1),xS (l:=c2.set (k+1) _) (by simp; omega),xS (l:=cs) (by omega),xS (l:=vl) (by omega)] at hrow2
     rw [f6 (k+1) (Nat.le_refl _)]
     have oc2:OkW (c2.set (k+1) ((at0 cs (k+1)+carry) % 4294967296)):=f3.set (Nat.mod_lt _ (by decide))
     have lc2:(c2.set (k+1) ((at0 cs (k+1)+carry) % 4294967296)).length=k+2:=by simp [f2]
     have gcs:=ocs.get (k+1)
     generalize c2.set (k+1) ((at0 cs (k+1)+carry) % 4294967296)=ce at hrow2 oc2 lc2 ⊢
     have hC2:=sP oc2
     rw [lc2] at hC2
     have hfin:=back_end hY0 (Nat.lt_of_lt_of_le hYk (Nat.pow_le_pow_right (by decide) (Nat.le_succ _))) hC2 y3 (show (at0 cs (k+1)+carry) / 4294967296≤1 by omega) hrow2
     obtain ⟨y4,y5⟩:=q2 ce (by omega) hfin
     rw [u32N,y1,Nat.mod_eq_of_lt EF.lt]
     refine yL (by rfl) (by rfl) (by omega) (by omega) ?_
     refine go2 ?_
     refine wM (k:=i) (by rfl) (by rfl) (by omega) (by omega) ?_
     refine go2 ?_
     refine l_n (by rfl) (by omega) ⟨i,pre++ce++post,out.set i (val seg / val vl),?_,rfl,rfl,by omega,by simp; omega,pI (pI opre oc2) opost,by simp [j4],j5.set EF.lt,y4,y5⟩
     rw [show arith .sub .i64 ((i:Nat):Int) 1=(i:Int) - 1 by rw [uP,yG (by omega) (by omega)]]
     rfl
  case false =>
   simp only [yA,yK] at hg
   refine go2 ?_
   rw [subI2 (k+1) (by omega) (by omega),show k+1 - 2=k - 1 by omega]
   refine yL (by rfl) (by rfl) (by omega) (by omega) ?_
   refine go2 ?_
   refine vI (k:=k - 1) (by rfl) (by omega) (by omega) ?_
   refine go2 ?_
   have hm:z*at0 vl (k - 1)<18446744073709551616:=by
    have:=Nat.mul_le_mul (show z≤4294967295 by omega) (Nat.le_of_lt_succ gn)
    omega
   rw [addI i (k+1) (by omega),subI2 (i+(k+1)) (by omega) (by omega)]
   refine yL (by rfl) (by rfl) (by omega) (by omega) ?_
   refine go2 ?_
   refine pM (i:=k - 1) (by rfl) (by omega) (by omega) ?_
   refine go2 ?_
   rw [wT _ (by omega:at0 vl (k - 1)<18446744073709551616),mulN _ _ hm,wT _ (by omega:at0 seg (k - 1)<18446744073709551616),shl32N _ p4,or_words p4 g2]
   cases hg2:yA Cm.gtr ((z*at0 vl (k - 1):Nat):Int) ((r*4294967296+at0 seg (k - 1):Nat):Int)
   case true =>
    simp only [yA,yE] at hg2
    obtain ⟨h1,h2⟩:=EF.round z r p1 (by omega)
    refine go2 ?_
    have h3:(z - 1)*at0 vl k+(r+at0 vl k)=at0 seg (k+1)*4294967296+at0 seg k:=by
     have e1:=Nat.sub_mul z 1 (at0 vl k)
     have e2:=Nat.mul_le_mul_right (at0 vl k) h2
     omega
    rw [subN1 z (by omega) h2,bN (k+1) (by omega) (by omega),show k+1 - 1=k by omega]
    refine yL (by rfl) (by rfl) (by omega) (by omega) ?_
    refine go2 ?_
    refine vI (k:=k) (by rfl) (by omega) (by omega) ?_
    refine go2 ?_
    rw [wT _ (by omega:at0 vl k<18446744073709551616),addN _ _ (by omega)]
    cases hr2:yA Cm.geq ((r+at0 vl k:Nat):Int) 4294967296
    case false =>
     simp only [yA,yK] at hr2
     refine go2 ?_
     exact l_n (by rfl) (by omega) ⟨z - 1,r+at0 vl k,rfl,rfl,rfl,h3,h1,by omega,by omega⟩
    case true =>
     simp only [yA,yE] at hr2
     have E:=EF.over (z - 1) (r+at0 vl k) h3 h1 (by omega)
     refine go2 ?_
     refine yX (fun y vs H => ∃ (w bo carry:Nat) (cur:List Nat),vs=[u64 s,.c (.sl 0 0 (a.length+1) (some (a.length+1)) 1),.c (.sl 1 0 (k+1) (some (k+1)) 1),i64 ((k+1:Nat):Int),.c (.sl 2 0 (m+1) (some (m+1)) 1),i64 i,u64 (z - 1),i64 bo,u64 carry,i64 ((k+1:Nat):Int),i64 w]∧H=[.live ⟨(pre++cur++post).map W,xB,.rw⟩,.live ⟨vl.map W,xB,.rw⟩,.live ⟨out.map W,xB,.rw⟩]∧y=k+1 - w∧w≤k+1∧cur.length=k+2∧OkW cur∧bo≤1∧carry<4294967296∧val (cur.take w)+(z - 1)*val (vl.take w)=val (seg.take w)+4294967296 ^ w*(carry+bo)∧∀ j,w≤j→at0 cur j=at0 seg j) (by rfl) ⟨0,0,0,seg,rfl,rfl,rfl,by omega,lseg,oseg,by omega,by omega,by simp [val],fun _ _ => rfl⟩ ?_
     rintro y vs H ⟨w,bo,carry,cur,rfl,rfl,rfl,c1,c2,c3,c4,c5,c6,c7⟩
     have gc:=c3.get w
     have gv:=v3.get w
     refine go2 ?_
     cases hw:yA Cm.lss (w:Int) ((k+1:Nat):Int)
     case true =>
      simp only [yA,yE] at hw
      have hmm:(z - 1)*at0 vl w+carry<18446744073709551616:=by
       have:=Nat.mul_le_mul (Nat.le_of_lt_succ E.lt) (Nat.le_of_lt_succ gv)
       omega
      refine go2 ?_
      refine yL (by rfl) (by rfl) (by omega) (by omega) ?_
      refine go2 ?_
      refine vI (k:=w) (by rfl) (by omega) (by omega) ?_
      refine go2 ?_
      rw [wT _ (by omega:at0 vl w<18446744073709551616),mulN _ _ (by omega),addN _ _ hmm]
      refine go2 ?_
      rw [shrN,addI w i (by omega)]
      refine yL (by rfl) (by rfl) (by omega) (by omega) ?_
      refine go2 ?_
      refine pM (i:=w) (by rfl) (by omega) (by omega) ?_
      refine go2 ?_
      obtain ⟨d,w',b',e1,e2,e3,x1,x2,x3⟩:=sub_i64 (x:=at0 cur w) (s:=((z - 1)*at0 vl w+carry) % 4294967296) (bo:=bo) gc (Nat.mod_lt _ (by decide)) c4
      rw [i64N _ (by omega:at0 cur w<9223372036854775808),u32N,i64N _ (by omega:((z - 1)*at0 vl w+carry) % 4294967296<9223372036854775808),e1]
      refine go2 ?_
      rw [e2,addI w i (by omega)]
      refine yL (by rfl) (by rfl) (by omega) (by omega) ?_
      refine go2 ?_
      refine jY (i:=w) (by rfl) (by rfl) (by omega) (by omega) ?_
      refine go2 ?_
      have hrow:=sub_row (t:=(z - 1)*at0 vl w+carry) (y:=at0 vl w) c6 (Nat.add_comm _ _) x3
      cases hd:yA Cm.lss d 0
      case true =>
       simp only [yA,yE] at hd
       have hb1:=e3.1 hd
       subst hb1
       refine go2 ?_
       rw [xL w (by omega)]
       refine l_n (by rfl) (by omega) ⟨w+1,1,((z - 1)*at0 vl w+carry) / 4294967296,cur.set w w',rfl,rfl,rfl,by omega,by simp [c2],c3.set x1,by omega,by omega,?_,fun j hj => ?_⟩
       ·rw [xP (by omega),yF vl,yF seg,uH w,←c7 w (Nat.le_refl w)]
        exact hrow
       ·rw [wU (by omega)]
        exact c7 j (by omega)
      case false =>
       simp only [yA,yK] at hd
       have hb1:b'=0:=by
        rcases Nat.lt_or_ge b' 1 with h | h
        ·omega
        ·exact absurd (e3.2 (by omega)) hd
       subst hb1
       refine go2 ?_
       rw [xL w (by omega)]
       refine l_n (by rfl) (by omega) ⟨w+1,0,((z - 1)*at0 vl w+carry) / 4294967296,cur.set w w',rfl,rfl,rfl,by omega,by simp [c2],c3.set x1,by omega,by omega,?_,fun j hj => ?_⟩
       ·rw [xP (by omega),yF vl,yF seg,uH w,←c7 w (Nat.le_refl w)]
        exact hrow
       ·rw [wU (by omega)]
        exact c7 j (by omega)
     simp only [yA,yK] at hw
     have ew:w=k+1:=by omega
     subst ew
     refine go2 ?_
     rw [addI i (k+1) (by omega)]
     refine yL (by rfl) (by rfl) (by omega) (by omega) ?_
     refine go2 ?_
     refine pM (i:=k+1) (by rfl) (by omega) (by omega) ?_
     refine go2 ?_
     obtain ⟨d,w',b',e1,e2,e3,x1,x2,x3⟩:=sub_i64 (x:=at0 cur (k+1)) (s:=carry) (bo:=bo) gc c5 c4
     rw [i64N _ (by omega:at0 cur (k+1)<9223372036854775808),i64N _ (by omega:carry<9223372036854775808),e1]
     refine go2 ?_
     rw [e2,addI i (k+1) (by omega)]
     refine yL (by rfl) (by rfl) (by omega) (by omega) ?_
     refine go2 ?_
     refine jY (i:=k+1) (by rfl) (by rfl) (by omega) (by omega) ?_
     refine go2 ?_
     have hrow:=sub_row (t:=carry) (y:=0) c6 (by rw [Nat.mul_zero,Nat.add_zero]) (by rw [Nat.mod_eq_of_lt c5]; exact x3)
     rw [c7 (k+1) (Nat.le_refl _),Nat.mul_zero,Nat.add_zero,Nat.div_eq_of_lt c5,←xP (by omega),←yF seg,←uH (k+1),xS (l:=cur.set (k+1) w') (by simp; omega),xS (l:=seg) (by omega),xS (l:=vl) (by omega)] at hrow
     have ocs:OkW (cur.set (k+1) w'):=c3.set x1
     have lcs:(cur.set (k+1) w').length=k+2:=by simp [c2]
     generalize cur.set (k+1) w'=cs at hrow ocs lcs
     have hC:=sP ocs
     rw [lcs] at hC
     obtain ⟨z1,z2⟩:=word_end (q:=(z - 1)) (c:=val cs) hY0 E.lo E.hi hC hXR
     clear c1 c2 c3 c4 c5 c6 c7 gc gv e1 e2 x3
     cases hd:yA Cm.lss d 0
     case false =>
      simp only [yA,yK] at hd
      have hb1:b'=0:=by
       rcases Nat.lt_or_ge b' 1 with h | h
       ·omega
       ·exact absurd (e3.2 (by omega)) hd
      subst hb1
      obtain ⟨y1,y2⟩:=z1 hrow
      obtain ⟨y3,y4⟩:=q2 cs (by omega) y2
      refine go2 ?_
      rw [u32N,y1,Nat.mod_eq_of_lt EF.lt]
      refine yL (by rfl) (by rfl) (by omega) (by omega) ?_
      refine go2 ?_
      refine wM (k:=i) (by rfl) (by rfl) (by omega) (by omega) ?_
      refine go2 ?_
      refine l_n (by rfl) (by omega) ⟨i,pre++cs++post,out.set i (val seg / val vl),?_,rfl,rfl,by omega,by simp; omega,pI (pI opre ocs) opost,by simp [j4],j5.set EF.lt,y3,y4⟩
      rw [show arith .sub .i64 ((i:Nat):Int) 1=(i:Int) - 1 by rw [uP,yG (by omega) (by omega)]]
      rfl
     case true =>
      simp only [yA,yE] at hd
      have hb1:=e3.1 hd
      subst hb1
      obtain ⟨y1,y2,y3⟩:=z2 hrow
      refine go2 ?_
      rw [subN1 (z - 1) (by omega) y2]
      refine yX (fun y vs H => ∃ (w carry:Nat) (c2:List Nat),vs=[u64 s,.c (.sl 0 0 (a.length+1) (some (a.length+1)) 1),.c (.sl 1 0 (k+1) (some (k+1)) 1),i64 ((k+1:Nat):Int),.c (.sl 2 0 (m+1) (some (m+1)) 1),i64 i,u64 ((z - 1) - 1),u64 carry,i64 ((k+1:Nat):Int),i64 w]∧H=[.live ⟨(pre++c2++post).map W,xB,.rw⟩,.live ⟨vl.map W,xB,.rw⟩,.live ⟨out.map W,xB,.rw⟩]∧y=k+1 - w∧w≤k+1∧c2.length=k+2∧OkW c2∧carry≤1∧val (c2.take w)+4294967296 ^ w*carry=val (cs.take w)+val (vl.take w)∧∀ j,w≤j→at0 c2 j=at0 cs j) (by rfl) ⟨0,0,cs,rfl,rfl,rfl,by omega,lcs,ocs,by omega,by simp [val],fun _ _ => rfl⟩ ?_
      rintro y vs H ⟨w,carry,c2,rfl,rfl,rfl,f1,f2,f3,f4,f5,f6⟩
      have gc:=f3.get w
      have gv:=v3.get w
      refine go2 ?_
      cases hw:yA Cm.lss (w:Int) ((k+1:Nat):Int)
      case true =>
       simp only [yA,yE] at hw
       refine go2 ?_
       rw [addI w i (by omega)]
       refine yL (by rfl) (by rfl) (by omega) (by omega) ?_
       refine go2 ?_
       refine pM (i:=w) (by rfl) (by omega) (by omega) ?_
       refine go2 ?_
       refine yL (by rfl) (by rfl) (by omega) (by omega) ?_
       refine go2 ?_
       refine vI (k:=w) (by rfl) (by omega) (by omega) ?_
       refine go2 ?_
       rw [wT _ (by omega:at0 c2 w<18446744073709551616),wT _ (by omega:at0 vl w<18446744073709551616),addN _ _ (by omega),addN _ _ (by omega)]
       refine go2 ?_
       rw [u32N,addI w i (by omega)]
       refine yL (by rfl) (by rfl) (by omega) (by omega) ?_
       refine go2 ?_
       refine jY (i:=w) (by rfl) (by rfl) (by omega) (by omega) ?_
       refine go2 ?_
       rw [shrN,xL w (by omega)]
       refine l_n (by rfl) (by omega) ⟨w+1,_,c2.set w ((at0 c2 w+at0 vl w+carry) % 4294967296),rfl,rfl,rfl,by omega,by simp [f2],f3.set (Nat.mod_lt _ (by decide)),by omega,?_,fun j hj => ?_⟩
       ·rw [xP (by omega),yF vl,yF cs,uH w,←f6 w (Nat.le_refl w)]
        exact add_row f5 (by omega)
       ·rw [wU (by omega)]
        exact f6 j (by omega)
      simp only [yA,yK] at hw
      have ew:w=k+1:=by omega
      subst ew
      refine go2 ?_
      rw [addI i (k+1) (by omega)]
      refine yL (by rfl) (by rfl) (by omega) (by omega) ?_
      refine go2 ?_
      refine pM (i:=k+1) (by rfl) (by omega) (by omega) ?_
      refine go2 ?_
      rw [u32N,Nat.mod_eq_of_lt (by omega:carry<4294967296),show arith .add .u32 ((at0 c2 (k+1):Nat):Int) (carry:Int)=(((at0 c2 (k+1)+carry) % 4294967296:Nat):Int) by rw [xD,xN]; omega]
      refine yL (by rfl) (by rfl) (by omega) (by omega) ?_
      refine go2 ?_
      refine jY (i:=k+1) (by rfl) (by rfl) (by omega) (by omega) ?_
      refine go2 ?_
      have hrow2:=add_row (x:=at0 c2 (k+1)) (y:=0) f5 rfl
      rw [Nat.mul_zero,Nat.add_zero,Nat.add_zero,Nat.add_comm carry,←xP (l:=c2) (by omega),f6 (k+1) (Nat.le_refl _),←yF cs,←uH (k+1),xS (l:=c2.set (k+1) _) (by simp; omega),xS (l:=cs) (by omega),xS (l:=vl) (by omega)] at hrow2
      rw [f6 (k+1) (Nat.le_refl _)]
      have oc2:OkW (c2.set (k+1) ((at0 cs (k+1)+carry) % 4294967296)):=f3.set (Nat.mod_lt _ (by decide))
      have lc2:(c2.set (k+1) ((at0 cs (k+1)+carry) % 4294967296)).length=k+2:=by simp [f2]
      have gcs:=ocs.get (k+1)
      generalize c2.set (k+1) ((at0 cs (k+1)+carry) % 4294967296)=ce at hrow2 oc2 lc2 ⊢
      have hC2:=sP oc2
      rw [lc2] at hC2
      have hfin:=back_end hY0 (Nat.lt_of_lt_of_le hYk (Nat.pow_le_pow_right (by decide) (Nat.le_succ _))) hC2 y3 (show (at0 cs (k+1)+carry) / 4294967296≤1 by omega) hrow2
      obtain ⟨y4,y5⟩:=q2 ce (by omega) hfin
      rw [u32N,y1,Nat.mod_eq_of_lt EF.lt]
      refine yL (by rfl) (by rfl) (by omega) (by omega) ?_
      refine go2 ?_
      refine wM (k:=i) (by rfl) (by rfl) (by omega) (by omega) ?_
      refine go2 ?_
      refine l_n (by rfl) (by omega) ⟨i,pre++ce++post,out.set i (val seg / val vl),?_,rfl,rfl,by omega,by simp; omega,pI (pI opre oc2) opost,by simp [j4],j5.set EF.lt,y4,y5⟩
      rw [show arith .sub .i64 ((i:Nat):Int) 1=(i:Int) - 1 by rw [uP,yG (by omega) (by omega)]]
      rfl
   case false =>
    simp only [yA,yK] at hg2
    have E:=EF.fin z r p1 p2 (by omega) (by omega)
    refine go2 ?_
    refine yX (fun y vs H => ∃ (w bo carry:Nat) (cur:List Nat),vs=[u64 s,.c (.sl 0 0 (a.length+1) (some (a.length+1)) 1),.c (.sl 1 0 (k+1) (some (k+1)) 1),i64 ((k+1:Nat):Int),.c (.sl 2 0 (m+1) (some (m+1)) 1),i64 i,u64 z,i64 bo,u64 carry,i64 ((k+1:Nat):Int),i64 w]∧H=[.live ⟨(pre++cur++post).map W,xB,.rw⟩,.live ⟨vl.map W,xB,.rw⟩,.live ⟨out.map W,xB,.rw⟩]∧y=k+1 - w∧w≤k+1∧cur.length=k+2∧OkW cur∧bo≤1∧carry<4294967296∧val (cur.take w)+z*val (vl.take w)=val (seg.take w)+4294967296 ^ w*(carry+bo)∧∀ j,w≤j→at0 cur j=at0 seg j) (by rfl) ⟨0,0,0,seg,rfl,rfl,rfl,by omega,lseg,oseg,by omega,by omega,by simp [val],fun _ _ => rfl⟩ ?_
    rintro y vs H ⟨w,bo,carry,cur,rfl,rfl,rfl,c1,c2,c3,c4,c5,c6,c7⟩
    have gc:=c3.get w
    have gv:=v3.get w
    refine go2 ?_
    cases hw:yA Cm.lss (w:Int) ((k+1:Nat):Int)
    case true =>
     simp only [yA,yE] at hw
     have hmm:z*at0 vl w+carry<18446744073709551616:=by
      have:=Nat.mul_le_mul (Nat.le_of_lt_succ E.lt) (Nat.le_of_lt_succ gv)
      omega
     refine go2 ?_
     refine yL (by rfl) (by rfl) (by omega) (by omega) ?_
     refine go2 ?_
     refine vI (k:=w) (by rfl) (by omega) (by omega) ?_
     refine go2 ?_
     rw [wT _ (by omega:at0 vl w<18446744073709551616),mulN _ _ (by omega),addN _ _ hmm]
     refine go2 ?_
     rw [shrN,addI w i (by omega)]
     refine yL (by rfl) (by rfl) (by omega) (by omega) ?_
     refine go2 ?_
     refine pM (i:=w) (by rfl) (by omega) (by omega) ?_
     refine go2 ?_
     obtain ⟨d,w',b',e1,e2,e3,x1,x2,x3⟩:=sub_i64 (x:=at0 cur w) (s:=(z*at0 vl w+carry) % 4294967296) (bo:=bo) gc (Nat.mod_lt _ (by decide)) c4
     rw [i64N _ (by omega:at0 cur w<9223372036854775808),u32N,i64N _ (by omega:(z*at0 vl w+carry) % 4294967296<9223372036854775808),e1]
     refine go2 ?_
     rw [e2,addI w i (by omega)]
     refine yL (by rfl) (by rfl) (by omega) (by omega) ?_
     refine go2 ?_
     refine jY (i:=w) (by rfl) (by rfl) (by omega) (by omega) ?_
     refine go2 ?_
     have hrow:=sub_row (t:=z*at0 vl w+carry) (y:=at0 vl w) c6 (Nat.add_comm _ _) x3
     cases hd:yA Cm.lss d 0
     case true =>
      simp only [yA,yE] at hd
      have hb1:=e3.1 hd
      subst hb1
      refine go2 ?_
      rw [xL w (by omega)]
      refine l_n (by rfl) (by omega) ⟨w+1,1,(z*at0 vl w+carry) / 4294967296,cur.set w w',rfl,rfl,rfl,by omega,by simp [c2],c3.set x1,by omega,by omega,?_,fun j hj => ?_⟩
      ·rw [xP (by omega),yF vl,yF seg,uH w,←c7 w (Nat.le_refl w)]
       exact hrow
      ·rw [wU (by omega)]
       exact c7 j (by omega)
     case false =>
      simp only [yA,yK] at hd
      have hb1:b'=0:=by
       rcases Nat.lt_or_ge b' 1 with h | h
       ·omega
       ·exact absurd (e3.2 (by omega)) hd
      subst hb1
      refine go2 ?_
      rw [xL w (by omega)]
      refine l_n (by rfl) (by omega) ⟨w+1,0,(z*at0 vl w+carry) / 4294967296,cur.set w w',rfl,rfl,rfl,by omega,by simp [c2],c3.set x1,by omega,by omega,?_,fun j hj => ?_⟩
      ·rw [xP (by omega),yF vl,yF seg,uH w,←c7 w (Nat.le_refl w)]
       exact hrow
      ·rw [wU (by omega)]
       exact c7 j (by omega)
    simp only [yA,yK] at hw
    have ew:w=k+1:=by omega
    subst ew
    refine go2 ?_
    rw [addI i (k+1) (by omega)]
    refine yL (by rfl) (by rfl) (by omega) (by omega) ?_
    refine go2 ?_
    refine pM (i:=k+1) (by rfl) (by omega) (by omega) ?_
    refine go2 ?_
    obtain ⟨d,w',b',e1,e2,e3,x1,x2,x3⟩:=sub_i64 (x:=at0 cur (k+1)) (s:=carry) (bo:=bo) gc c5 c4
    rw [i64N _ (by omega:at0 cur (k+1)<9223372036854775808),i64N _ (by omega:carry<9223372036854775808),e1]
    refine go2 ?_
    rw [e2,addI i (k+1) (by omega)]
    refine yL (by rfl) (by rfl) (by omega) (by omega) ?_
    refine go2 ?_
    refine jY (i:=k+1) (by rfl) (by rfl) (by omega) (by omega) ?_
    refine go2 ?_
    have hrow:=sub_row (t:=carry) (y:=0) c6 (by rw [Nat.mul_zero,Nat.add_zero]) (by rw [Nat.mod_eq_of_lt c5]; exact x3)
    rw [c7 (k+1) (Nat.le_refl _),Nat.mul_zero,Nat.add_zero,Nat.div_eq_of_lt c5,←xP (by omega),←yF seg,←uH (k+1),xS (l:=cur.set (k+1) w') (by simp; omega),xS (l:=seg) (by omega),xS (l:=vl) (by omega)] at hrow
    have ocs:OkW (cur.set (k+1) w'):=c3.set x1
    have lcs:(cur.set (k+1) w').length=k+2:=by simp [c2]
    generalize cur.set (k+1) w'=cs at hrow ocs lcs
    have hC:=sP ocs
    rw [lcs] at hC
    obtain ⟨z1,z2⟩:=word_end (q:=z) (c:=val cs) hY0 E.lo E.hi hC hXR
    clear c1 c2 c3 c4 c5 c6 c7 gc gv e1 e2 x3
    cases hd:yA Cm.lss d 0
    case false =>
     simp only [yA,yK] at hd
     have hb1:b'=0:=by
      rcases Nat.lt_or_ge b' 1 with h | h
      ·omega
      ·exact absurd (e3.2 (by omega)) hd
     subst hb1
     obtain ⟨y1,y2⟩:=z1 hrow
     obtain ⟨y3,y4⟩:=q2 cs (by omega) y2
     refine go2 ?_
     rw [u32N,y1,Nat.mod_eq_of_lt EF.lt]
     refine yL (by rfl) (by rfl) (by omega) (by omega) ?_
     refine go2 ?_
     refine wM (k:=i) (by rfl) (by rfl) (by omega) (by omega) ?_
     refine go2 ?_
     refine l_n (by rfl) (by omega) ⟨i,pre++cs++post,out.set i (val seg / val vl),?_,rfl,rfl,by omega,by simp; omega,pI (pI opre ocs) opost,by simp [j4],j5.set EF.lt,y3,y4⟩
     rw [show arith .sub .i64 ((i:Nat):Int) 1=(i:Int) - 1 by rw [uP,yG (by omega) (by omega)]]
     rfl
    case true =>
     simp only [yA,yE] at hd
     have hb1:=e3.1 hd
     subst hb1
     obtain ⟨y1,y2,y3⟩:=z2 hrow
     refine go2 ?_
     rw [subN1 z (by omega) y2]
     refine yX (fun y vs H => ∃ (w carry:Nat) (c2:List Nat),vs=[u64 s,.c (.sl 0 0 (a.length+1) (some (a.length+1)) 1),.c (.sl 1 0 (k+1) (some (k+1)) 1),i64 ((k+1:Nat):Int),.c (.sl 2 0 (m+1) (some (m+1)) 1),i64 i,u64 (z - 1),u64 carry,i64 ((k+1:Nat):Int),i64 w]∧H=[.live ⟨(pre++c2++post).map W,xB,.rw⟩,.live ⟨vl.map W,xB,.rw⟩,.live ⟨out.map W,xB,.rw⟩]∧y=k+1 - w∧w≤k+1∧c2.length=k+2∧OkW c2∧carry≤1∧val (c2.take w)+4294967296 ^ w*carry=val (cs.take w)+val (vl.take w)∧∀ j,w≤j→at0 c2 j=at0 cs j) (by rfl) ⟨0,0,cs,rfl,rfl,rfl,by omega,lcs,ocs,by omega,by simp [val],fun _ _ => rfl⟩ ?_
     rintro y vs H ⟨w,carry,c2,rfl,rfl,rfl,f1,f2,f3,f4,f5,f6⟩
     have gc:=f3.get w
     have gv:=v3.get w
     refine go2 ?_
     cases hw:yA Cm.lss (w:Int) ((k+1:Nat):Int)
     case true =>
      simp only [yA,yE] at hw
      refine go2 ?_
      rw [addI w i (by omega)]
      refine yL (by rfl) (by rfl) (by omega) (by omega) ?_
      refine go2 ?_
      refine pM (i:=w) (by rfl) (by omega) (by omega) ?_
      refine go2 ?_
      refine yL (by rfl) (by rfl) (by omega) (by omega) ?_
      refine go2 ?_
      refine vI (k:=w) (by rfl) (by omega) (by omega) ?_
      refine go2 ?_
      rw [wT _ (by omega:at0 c2 w<18446744073709551616),wT _ (by omega:at0 vl w<18446744073709551616),addN _ _ (by omega),addN _ _ (by omega)]
      refine go2 ?_
      rw [u32N,addI w i (by omega)]
      refine yL (by rfl) (by rfl) (by omega) (by omega) ?_
      refine go2 ?_
      refine jY (i:=w) (by rfl) (by rfl) (by omega) (by omega) ?_
      refine go2 ?_
      rw [shrN,xL w (by omega)]
      refine l_n (by rfl) (by omega) ⟨w+1,_,c2.set w ((at0 c2 w+at0 vl w+carry) % 4294967296),rfl,rfl,rfl,by omega,by simp [f2],f3.set (Nat.mod_lt _ (by decide)),by omega,?_,fun j hj => ?_⟩
      ·rw [xP (by omega),yF vl,yF cs,uH w,←f6 w (Nat.le_refl w)]
       exact add_row f5 (by omega)
      ·rw [wU (by omega)]
       exact f6 j (by omega)
     simp only [yA,yK] at hw
     have ew:w=k+1:=by omega
     subst ew
     refine go2 ?_
     rw [addI i (k+1) (by omega)]
     refine yL (by rfl) (by rfl) (by omega) (by omega) ?_
     refine go2 ?_
     refine pM (i:=k+1) (by rfl) (by omega) (by omega) ?_
     refine go2 ?_
     rw [u32N,Nat.mod_eq_of_lt (by omega:carry<4294967296),show arith .add .u32 ((at0 c2 (k+1):Nat):Int) (carry:Int)=(((at0 c2 (k+1)+carry) % 4294967296:Nat):Int) by rw [xD,xN]; omega]
     refine yL (by rfl) (by rfl) (by omega) (by omega) ?_
     refine go2 ?_
     refine jY (i:=k+1) (by rfl) (by rfl) (by omega) (by omega) ?_
     refine go2 ?_
     have hrow2:=add_row (x:=at0 c2 (k+1)) (y:=0) f5 rfl
     rw [Nat.mul_zero,Nat.add_zero,Nat.add_zero,Nat.add_comm carry,←xP (l:=c2) (by omega),f6 (k+1) (Nat.le_refl _),←yF cs,←uH (k+1),xS (l:=c2.set (k+1) _) (by simp; omega),xS (l:=cs) (by omega),xS (l:=vl) (by omega)] at hrow2
     rw [f6 (k+1) (Nat.le_refl _)]
     have oc2:OkW (c2.set (k+1) ((at0 cs (k+1)+carry) % 4294967296)):=f3.set (Nat.mod_lt _ (by decide))
     have lc2:(c2.set (k+1) ((at0 cs (k+1)+carry) % 4294967296)).length=k+2:=by simp [f2]
     have gcs:=ocs.get (k+1)
     generalize c2.set (k+1) ((at0 cs (k+1)+carry) % 4294967296)=ce at hrow2 oc2 lc2 ⊢
     have hC2:=sP oc2
     rw [lc2] at hC2
     have hfin:=back_end hY0 (Nat.lt_of_lt_of_le hYk (Nat.pow_le_pow_right (by decide) (Nat.le_succ _))) hC2 y3 (show (at0 cs (k+1)+carry) / 4294967296≤1 by omega) hrow2
     obtain ⟨y4,y5⟩:=q2 ce (by omega) hfin
     rw [u32N,y1,Nat.mod_eq_of_lt EF.lt]
     refine yL (by rfl) (by rfl) (by omega) (by omega) ?_
     refine go2 ?_
     refine wM (k:=i) (by rfl) (by rfl) (by omega) (by omega) ?_
     refine go2 ?_
     refine l_n (by rfl) (by omega) ⟨i,pre++ce++post,out.set i (val seg / val vl),?_,rfl,rfl,by omega,by simp; omega,pI (pI opre oc2) opost,by simp [j4],j5.set EF.lt,y4,y5⟩
     rw [show arith .sub .i64 ((i:Nat):Int) 1=(i:Int) - 1 by rw [uP,yG (by omega) (by omega)]]
     rfl
 simp [yA] at hq2
 have ej:z=0:=by omega
 subst ej
 rw [List.drop_zero] at j6 j7
 rw [Nat.pow_zero,Nat.one_mul,v4] at j6
 have j8:=Nat.lt_trans j7 hYk
 rw [v4] at j7
 obtain ⟨d1,d2⟩:=parts_end hvb j6 j7
 have hb0':at0 xc 0 % 2 ^ s=0:=back_start (r:=val a % val b) (by omega) d2
 obtain ⟨e1,e2⟩:=above_nought j8 (by omega)
 refine go2 ?_
 refine vQ (by rfl) (by rfl) ⟨by omega,by omega,by omega,by omega⟩ ?_
 rw [Int.toNat_natCast,zeros]
 refine go2 ?_
 refine yX (fun y vs H => ∃ (w:Nat) (rl:List Nat),vs=[u64 s,.c (.sl 0 0 (a.length+1) (some (a.length+1)) 1),.c (.sl 2 0 (m+1) (some (m+1)) 1),.c (.sl 3 0 (k+1) (some (k+1)) 1),i64 ((k+1:Nat):Int),i64 w]∧H=[.live ⟨xc.map W,xB,.rw⟩,.live ⟨vl.map W,xB,.rw⟩,.live ⟨out.map W,xB,.rw⟩,.live ⟨rl.map W,xB,.rw⟩]∧y=k+1 - w∧w≤k+1∧rl.length=k+1∧OkW rl∧2 ^ s*val (rl.take w)=val (xc.take w)+4294967296 ^ w*(at0 xc w % 2 ^ s)) (by rfl) ⟨0,_,rfl,rfl,rfl,by omega,by simp,fun x hx => by simp at hx; omega,by rw [hb0']; simp [val]⟩ ?_
 rintro y vs H ⟨w,rl,rfl,rfl,rfl,f1,f2,f3,f4⟩
 refine go2 ?_
 cases hw:yA Cm.lss (w:Int) ((k+1:Nat):Int)
 case true =>
  simp only [yA,yE] at hw
  have gi:=j3.get w
  have gj:=j3.get (w+1)
  obtain ⟨q,w1,w2,w3,w4,w5⟩:=back_word n1 gi gj
  obtain ⟨w6,w7⟩:=or_u32' (lo:=at0 xc w / 2 ^ s) (m:=q) (s:=32 - s) (by omega) w2 w4
  refine go2 ?_
  refine yL (by rfl) (by rfl) (by omega) (by omega) ?_
  refine go2 ?_
  refine vI (k:=w) (by rfl) (by omega) (by omega) ?_
  refine go2 ?_
  rw [shrU _ _ (by omega)]
  refine yL (by rfl) (by rfl) (by omega) (by omega) ?_
  refine go2 ?_
  refine wM (k:=w) (by rfl) (by rfl) (by omega) (by omega) ?_
  refine go2 ?_
  cases hs0:yA Cm.gtr (s:Int) 0
  case false =>
   simp [yA] at hs0
   subst hs0
   refine go2 ?_
   rw [xL w (by omega)]
   refine l_n (by rfl) (by omega) ⟨w+1,_,rfl,rfl,rfl,by omega,by simp [f2],f3.set (by rw [Nat.pow_zero,Nat.div_one]; exact gi),?_⟩
   rw [xP (by omega),yF xc,uH w]
   exact back_row f4 (by simp [Nat.mod_one])
  case true =>
   simp only [yA,yE] at hs0
   refine go2 ?_
   refine yL (by rfl) (by rfl) (by omega) (by omega) ?_
   refine go2 ?_
   refine vI (k:=w) (by rfl) (by omega) (by simp; omega) ?_
   refine go2 ?_
   rw [xL w (by omega)]
   refine yL (by rfl) (by rfl) (by omega) (by omega) ?_
   refine go2 ?_
   refine vI (k:=w+1) (by rfl) (by omega) (by omega) ?_
   refine go2 ?_
   rw [show arith .sub .u64 32 (s:Int)=((32 - s:Nat):Int) from subN 32 s (by omega) (by omega)]
   refine go2 ?_
   rw [shlU _ _ (by omega),w1,show at0 (rl.set w (at0 xc w / 2 ^ s)) w=at0 xc w / 2 ^ s by simp [at0,show w<rl.length by omega],w6]
   refine yL (by rfl) (by rfl) (by omega) (by omega) ?_
   refine go2 ?_
   refine wM (k:=w) (by rfl) (by rfl) (by omega) (by simp; omega) ?_
   refine go2 ?_
   rw [xL w (by omega)]
   refine l_n (by rfl) (by omega) ⟨w+1,_,rfl,rfl,rfl,by omega,by simp [f2],by rw [List.set_set]; exact f3.set w7,?_⟩
   rw [List.set_set,xP (by omega),yF xc,uH w]
   exact back_row f4 w5
 simp only [yA,yK] at hw
 have ew:w=k+1:=by omega
 subst ew
 rw [xS (l:=rl) (by omega),e1,e2,Nat.zero_mod,Nat.mul_zero,Nat.add_zero,d2,Nat.mul_comm] at f4
 have hfin:val rl=val a % val b:=Nat.eq_of_mul_eq_mul_right (Nat.pow_pos (by decide)) f4
 refine go2 ?_
 exact QWK.fz (vU out (by rfl) (by simp) (by simp) j4.symm (by rw [←j4]; exact List.take_of_length_le (by simp))) (vU rl (by rfl) (by simp) (by simp) f2.symm (by rw [←f2]; exact List.take_of_length_le (by simp))) (.imm out) j5 d1 (by omega) (.imm rl) f3 hfin (by omega)
end Go.Proofs.Ytokckcnfojjpjaa

namespace Go.Proofs.Ytokckcnfojjpjaa
open Go.RowKit
set_option maxRecDepth 20000
theorem amt_tdiv (m1 m2:Bool) (x y:Nat):(amt m1 x).tdiv (amt m2 y)=amt (!(m1 == m2)) (x / y):=by
 have e:(x:Int).tdiv (y:Int)=((x / y:Nat):Int):=(Int.ofNat_tdiv x y).symm
 cases m1 <;> cases m2
 ·exact e
 ·simp only [amt,cond_true,cond_false,Int.tdiv_neg,e]
  rfl
 ·simp only [amt,cond_true,cond_false,Int.neg_tdiv,e]
  rfl
 ·simp only [amt,cond_true,cond_false,Int.tdiv_neg,Int.neg_tdiv,Int.neg_neg,e]
  rfl
theorem amt_tmod (m1 m2:Bool) (x y:Nat):(amt m1 x).tmod (amt m2 y)=amt m1 (x % y):=by
 have e:(x:Int).tmod (y:Int)=((x % y:Nat):Int):=(Int.ofNat_tmod x y).symm
 cases m1 <;> cases m2
 ·exact e
 ·simp only [amt,cond_true,cond_false,Int.tmod_neg,e]
 ·simp only [amt,cond_true,cond_false,Int.neg_tmod,e]
 ·simp only [amt,cond_true,cond_false,Int.tmod_neg,Int.neg_tmod,e]
theorem Sz.cl {n:Nat} (hn:n≤268435456):SCl (Sz n) n:=⟨fun a b h1 h2 => by unfold Sz at *; omega,fun a h => h,hn⟩
attribute [local irreducible] yA semH semC qLen qNil qIad qSlc qIdx yW yI xA appX appI slcX awpF yP xH xopF xM qval lval seqQ xJ xY xU xR cnd arith IntKind.wrap
theorem nM {c d:C} {a b:List Nat} (hc:Wd c a) (hd:Wd d b) (na:Norm a) (nb:Norm b) (hb0:b≠[]) (hl:a.length<1073741824):semC Try.prog n_num_quoWords [.c c,.c d] (QWK (val a) (val b) a.length):=by
 rcases Nat.lt_or_ge (val a) (val b) with hv | hv
 ·exact num_quoWords_less hc hd na nb hl hv
 ·rcases Nat.lt_or_ge b.length 2 with h | h
  ·have hl1:0<b.length:=List.length_pos_iff.2 hb0
   match b,h,hl1 with
   | [x],_,_ => exact num_quoWords_short hc hd na nb hl (by omega)
  ·exact num_quoWords_long hc hd na nb h hl (by omega)
theorem quoOk {n:Nat} (hn:n≤268435456):QuoOk (Sz n):=by
 intro cs ds a b hx hy sa sb h0
 refine yD ok_num_Z_Quo rfl (show HFVs [.agg cs,.agg ds] from ⟨hx.hf,hy.hf,trivial⟩) ?_
 unfold Sz at sa sb
 have hx':=hx
 have hy':=hy
 rcases hx.look with ⟨rfl,x1,x2⟩ | ⟨lx,nx,rfl,xn,xv,xe⟩
 ·rcases hy.look with ⟨rfl,y1,y2⟩ | ⟨ly,ny,rfl,yn,yv,ye⟩
  ·have q1:=nC a b
   have q2:=tmod_le a b
   refine go2 ?_
   cases hq:yA Cm.neq a (-9223372036854775808)
   case false =>
    refine go2 ?_
    refine yB (xG hx') (fun u hu => ?_)
    obtain ⟨c1,l1,n1,rfl,w1,o1,e1⟩:=hu
    refine go2 ?_
    refine yB (xG hy') (fun u hu => ?_)
    obtain ⟨c2,l2,n2,rfl,w2,o2,e2⟩:=hu
    have hl1:l1.length≤n:=wC o1 (by rw [e1] at sa; rwa [wV] at sa)
    have hl2:l2≠[]:=fun e => by
     rw [e] at e2
     rw [e2] at h0
     exact h0 (by cases n2 <;> rfl)
    refine go2 ?_
    refine yB (nM w1 w2 o1 o2 hl2 (by omega)) (fun u hu => ?_)
    obtain ⟨c3,l3,c4,l4,rfl,w3,o3,v3,len3,w4,o4,v4,len4⟩:=hu
    refine go2 ?_
    refine yB (xX _ w3 o3 (by omega)) (fun u hu => ?_)
    obtain ⟨es,rfl,h1⟩:=hu
    refine go2 ?_
    refine yB (xX _ w4 o4 (by omega)) (fun u hu => ?_)
    obtain ⟨fs,rfl,h2⟩:=hu
    obtain ⟨g1,g2,g3,rfl⟩:=h1.three
    obtain ⟨k1,k2,k3,rfl⟩:=h2.three
    refine go2 ?_
    refine QuoK.fz ?_ ?_
    ·rw [e1,e2,amt_tdiv,←v3]
     exact h1
    ·rw [e1,e2,amt_tmod,←v4]
     exact h2
   case true =>
    simp [yA] at hq
    refine go2 ?_
    refine q_ar (by rfl) (by rfl) (by simp [needs,h0]) ?_
    rw [ar_quo,yG (by omega) (by omega)]
    refine go2 ?_
    refine q_ar (by rfl) (by rfl) (by simp [needs,h0]) ?_
    rw [ar_rem]
    refine go2 ?_
    exact QuoK.fz (.small _ (by omega) (by omega)) (.small _ (by omega) (by omega))
  ·refine go2 ?_
   refine yB (xG hx') (fun u hu => ?_)
   obtain ⟨c1,l1,n1,rfl,w1,o1,e1⟩:=hu
   refine go2 ?_
   refine yB (xG hy') (fun u hu => ?_)
   obtain ⟨c2,l2,n2,rfl,w2,o2,e2⟩:=hu
   have hl1:l1.length≤n:=wC o1 (by rw [e1] at sa; rwa [wV] at sa)
   have hl2:l2≠[]:=fun e => by
    rw [e] at e2
    rw [e2] at h0
    exact h0 (by cases n2 <;> rfl)
   refine go2 ?_
   refine yB (nM w1 w2 o1 o2 hl2 (by omega)) (fun u hu => ?_)
   obtain ⟨c3,l3,c4,l4,rfl,w3,o3,v3,len3,w4,o4,v4,len4⟩:=hu
   refine go2 ?_
   refine yB (xX _ w3 o3 (by omega)) (fun u hu => ?_)
   obtain ⟨es,rfl,h1⟩:=hu
   refine go2 ?_
   refine yB (xX _ w4 o4 (by omega)) (fun u hu => ?_)
   obtain ⟨fs,rfl,h2⟩:=hu
   obtain ⟨g1,g2,g3,rfl⟩:=h1.three
   obtain ⟨k1,k2,k3,rfl⟩:=h2.three
   refine go2 ?_
   refine QuoK.fz ?_ ?_
   ·rw [e1,e2,amt_tdiv,←v3]
    exact h1
   ·rw [e1,e2,amt_tmod,←v4]
    exact h2
 ·refine go2 ?_
  obtain ⟨b1,b2,b3,rfl⟩:=hy'.three
  refine go2 ?_
  refine yB (xG hx') (fun u hu => ?_)
  obtain ⟨c1,l1,n1,rfl,w1,o1,e1⟩:=hu
  refine go2 ?_
  refine yB (xG hy') (fun u hu => ?_)
  obtain ⟨c2,l2,n2,rfl,w2,o2,e2⟩:=hu
  have hl1:l1.length≤n:=wC o1 (by rw [e1] at sa; rwa [wV] at sa)
  have hl2:l2≠[]:=fun e => by
   rw [e] at e2
   rw [e2] at h0
   exact h0 (by cases n2 <;> rfl)
  refine go2 ?_
  refine yB (nM w1 w2 o1 o2 hl2 (by omega)) (fun u hu => ?_)
  obtain ⟨c3,l3,c4,l4,rfl,w3,o3,v3,len3,w4,o4,v4,len4⟩:=hu
  refine go2 ?_
  refine yB (xX _ w3 o3 (by omega)) (fun u hu => ?_)
  obtain ⟨es,rfl,h1⟩:=hu
  refine go2 ?_
  refine yB (xX _ w4 o4 (by omega)) (fun u hu => ?_)
  obtain ⟨fs,rfl,h2⟩:=hu
  obtain ⟨g1,g2,g3,rfl⟩:=h1.three
  obtain ⟨k1,k2,k3,rfl⟩:=h2.three
  refine go2 ?_
  refine QuoK.fz ?_ ?_
  ·rw [e1,e2,amt_tdiv,←v3]
   exact h1
  ·rw [e1,e2,amt_tmod,←v4]
   exact h2
end Go.Proofs.Ytokckcnfojjpjaa

namespace Go.Proofs.Ytokckcnfojjpjaa
open Go.RowKit
set_option maxRecDepth 20000
def EndsAdd (x y e:SP):Prop:=Red (x.1.1*y.1.2+y.1.1*x.1.2) (x.1.2*y.1.2) e.1∧Red (x.2.1*y.2.2+y.2.1*x.2.2) (x.2.2*y.2.2) e.2
def EndsSub (x y e:SP):Prop:=Red (x.1.1*y.2.2 + -y.2.1*x.1.2) (x.1.2*y.2.2) e.1∧Red (x.2.1*y.1.2 + -y.1.1*x.2.2) (x.2.2*y.1.2) e.2
def EndsMul (x y e:SP):Prop:=∃ r1 r2 r3 r4,Red (x.1.1*y.1.1) (x.1.2*y.1.2) r1∧Red (x.1.1*y.2.1) (x.1.2*y.2.2) r2∧Red (x.2.1*y.1.1) (x.2.2*y.1.2) r3∧Red (x.2.1*y.2.1) (x.2.2*y.2.2) r4∧e=[r1,r2,r3,r4].foldl wider (r1,r1)
def Turn (y t:SP):Prop:=Red (1*y.2.2) (1*y.2.1) t.1∧Red (1*y.1.2) (1*y.1.1) t.2
def EndsDiv (x y e:SP):Prop:=∃ t,Turn y t∧EndsMul x t e
def Ends (kind:Nat) (x y e:SP):Prop:=match kind with
 | 0 => EndsAdd x y e
 | 1 => EndsSub x y e
 | 2 => EndsMul x y e
 | _ => EndsDiv x y e
noncomputable def zeroB (x:SP):Bool:=dec (x.1.1≤0) && dec (0≤x.2.1)
def AnsK (kind:Nat) (x y:SP) (g:Int) (u:V):Prop :=
 (checkB g [x,y]=false→u=.tup [.agg zeroC,i64 1]) ∧
 (checkB g [x,y]=true→(kind=3∧zeroB y=true→u=.tup [.agg zeroC,i64 4])∧(¬ (kind=3∧zeroB y=true)→∃ e,Ends kind x y e∧OutwK e g u))
theorem Red.same {n d:Int} {p q:R2} (h0:d≠0) (hp:Red n d p) (hq:Red n d q):p=q:=hp.uniq hq h0 h0 rfl
theorem AnsK.nil {x y:SP} {g:Int} (hc:checkB g [x,y]=true) (hz:zeroB y=true):AnsK 3 x y g (.tup [.agg (spanC ((0,0),(0,0))),i64 4]) :=
 ⟨fun h => (by rw [hc] at h; cases h),fun _ => ⟨fun _ => rfl,fun h => absurd ⟨rfl,hz⟩ h⟩⟩
theorem AnsK.of {kind:Nat} {x y e:SP} {g:Int} {u:V} (hc:checkB g [x,y]=true) (hz:¬ (kind=3∧zeroB y=true)) (en:Ends kind x y e) (hu:OutwK e g u):AnsK kind x y g u :=
 ⟨fun h => (by rw [hc] at h; cases h),fun _ => ⟨fun h => absurd h hz,fun _ => ⟨e,en,hu⟩⟩⟩
theorem fold_bd {k:Nat} {r1 r2 r3 r4:R2} (h1:Bd k r1) (h2:Bd k r2) (h3:Bd k r3) (h4:Bd k r4):BdS k ([r1,r2,r3,r4].foldl wider (r1,r1)) :=
 BdS.fold (l:=[r1,r2,r3,r4]) ⟨h1,h1⟩ (fun p hp => by
  simp at hp
  rcases hp with rfl | rfl | rfl | rfl
  ·exact h1
  ·exact h2
  ·exact h3
  ·exact h4)
theorem EndsMul.bd {k:Nat} {x y e:SP} (bx:BdS k x) (by':BdS k y) (h:EndsMul x y e):BdS (k+k) e:=by
 obtain ⟨r1,r2,r3,r4,a1,a2,a3,a4,rfl⟩:=h
 exact fold_bd (a1.bd (bx.lo.n.mul by'.lo.n) (bx.lo.d.mul by'.lo.d)) (a2.bd (bx.lo.n.mul by'.hi.n) (bx.lo.d.mul by'.hi.d)) (a3.bd (bx.hi.n.mul by'.lo.n) (bx.hi.d.mul by'.lo.d)) (a4.bd (bx.hi.n.mul by'.hi.n) (bx.hi.d.mul by'.hi.d))
theorem Turn.bd {k:Nat} {y t:SP} (b:BdS k y) (h:Turn y t):BdS k t:=by
 have h1:=h.1
 have h2:=h.2
 simp only [Int.one_mul] at h1 h2
 exact ⟨h1.bd b.hi.d b.hi.n,h2.bd b.lo.d b.lo.n⟩
theorem EndsAdd.bd {k:Nat} {x y e:SP} (bx:BdS k x) (by':BdS k y) (h:EndsAdd x y e):BdS (k+k+1) e :=
 ⟨h.1.bd ((bx.lo.n.mul by'.lo.d).add (by'.lo.n.mul bx.lo.d)) ((bx.lo.d.mul by'.lo.d).up (by omega)),h.2.bd ((bx.hi.n.mul by'.hi.d).add (by'.hi.n.mul bx.hi.d)) ((bx.hi.d.mul by'.hi.d).up (by omega))⟩
theorem EndsSub.bd {k:Nat} {x y e:SP} (bx:BdS k x) (by':BdS k y) (h:EndsSub x y e):BdS (k+k+1) e :=
 ⟨h.1.bd ((bx.lo.n.mul by'.hi.d).add (by'.hi.n.neg.mul bx.lo.d)) ((bx.lo.d.mul by'.hi.d).up (by omega)),h.2.bd ((bx.hi.n.mul by'.lo.d).add (by'.lo.n.neg.mul bx.hi.d)) ((bx.hi.d.mul by'.lo.d).up (by omega))⟩
attribute [local irreducible] yA semH semC qLen qNil qIad qSlc qIdx yW yI xA appX appI slcX awpF yP xH xopF xM qval lval seqQ xJ xY xU xR cnd arith IntKind.wrap
theorem num_Q_Neg {cs:List C} {p:R2} {k:Nat} (hx:IsQ cs p) (bp:Bd k p) (hk:k≤268435456):semC Try.prog n_num_Q_Neg [.agg cs] (QK (-p.1,p.2)):=by
 refine yD ok_num_Q_Neg rfl (show HFVs [.agg cs] from ⟨hx.hf,trivial⟩) ?_
 obtain ⟨a,b,c,d,e,f,rfl,h1,h2⟩:=hx.six
 refine go2 ?_
 refine yS (bP h1 bp.n (by omega)) (fun u hu => ?_)
 obtain ⟨es,rfl,h3⟩:=hu
 obtain ⟨_,_,_,rfl⟩:=h3.three
 refine go2 ?_
 exact QK.fz (p:=(-p.1,p.2)) (.of h3 h2)
theorem num_Q_Sub {S:Int→Prop} {n k:Nat} (hS:SCl S n) (hQ:QuoOk S) {cs ds:List C} {p q:R2} (hx:IsQ cs p) (hy:IsQ ds q) (bp:Bd k p) (bq:Bd k q) (hk:k+k≤268435456) (s1:S (p.1*q.2 + -q.1*p.2)) (s2:S (p.2*q.2)):semC Try.prog n_num_Q_Sub [.agg cs,.agg ds] (sC (p.1*q.2 + -q.1*p.2) (p.2*q.2)):=by
 refine yD ok_num_Q_Sub rfl (show HFVs [.agg cs,.agg ds] from ⟨hx.hf,hy.hf,trivial⟩) ?_
 obtain ⟨_,_,_,_,_,_,rfl,_⟩:=hx.six
 obtain ⟨_,_,_,_,_,_,rfl,_⟩:=hy.six
 have bn:Bd k ((-q.1,q.2):R2):=⟨bq.n.neg,bq.d,bq.pos⟩
 refine go2 ?_
 refine yS (num_Q_Neg hy bq (by omega)) (fun u hu => ?_)
 obtain ⟨es,rfl,h3⟩:=hu
 refine go2 ?_
 refine yS (num_Q_Add hS hQ hx h3 bp bn hk s1 s2) (fun u hu => ?_)
 obtain ⟨gs,r,rfl,r1,red⟩:=hu.red
 obtain ⟨_,_,_,_,_,_,rfl,_⟩:=r1.six
 refine go2 ?_
 exact sC.fz r1 red.pos red.gcd red.eq red.n red.d
end Go.Proofs.Ytokckcnfojjpjaa

namespace Go.Proofs.Ytokckcnfojjpjaa
open Go.RowKit
set_option maxRecDepth 20000
def SRK (R:SP→Prop) (u:V):Prop:=∃ cs e,u=.agg cs∧IsS cs e∧R e
theorem SRK.fz {R:SP→Prop} {e:SP} {cs:List C} {H:Hp} (h:IsS cs e) (r:R e):∃ d,FzV H (.agg cs) d∧SRK R d:=⟨_,.agg (.hf h.hf),cs,e,rfl,h,r⟩
theorem SpanOk.two {x:SP} (h:SpanOk x):0<x.1.2∧0<x.2.2:=⟨by have:=h.1.1; omega,by have:=h.2.1.1; omega⟩
attribute [local irreducible] yA semH semC qLen qNil qIad qSlc qIdx yW yI xA appX appI slcX awpF yP xH xopF xM qval lval seqQ xJ xY xU xR cnd arith IntKind.wrap
end Go.Proofs.Ytokckcnfojjpjaa

namespace Go.Proofs.Ytokckcnfojjpjaa
open Go.RowKit
set_option maxRecDepth 20000
def pw (p:R2) (n:Nat):R2:=(p.1 ^ n,p.2 ^ n)
def Good (p:R2):Prop:=0<p.2∧Int.gcd p.1 p.2=1
theorem wL.good {p:R2} (h:wL p.1 p.2):Good p:=⟨by have:=h.1; omega,h.2.2.2.2⟩
theorem Bd.to {k m:Nat} {p:R2} (h:Bd k p) (hk:k≤m):Bd m p:=⟨h.n.up hk,h.d.up hk,h.pos⟩
theorem Good.uniq {p q:R2} (hp:Good p) (hq:Good q) (h1:¬ uE p q) (h2:¬ uE q p):p=q:=by
 unfold uE at h1 h2
 obtain ⟨e1,e2⟩:=red_uniq hp.2 hq.2 hp.1 hq.1 (show p.1*q.2=q.1*p.2 by omega)
 exact Prod.ext e1 e2
theorem not_less_trans {p q r:R2} (hp:0<p.2) (hq:0<q.2) (hr:0<r.2) (h1:¬ uE q p) (h2:¬ uE r q):¬ uE r p:=by
 unfold uE at *
 intro h
 have a1:p.1*q.2≤q.1*p.2:=by omega
 have a2:q.1*r.2≤r.1*q.2:=by omega
 have b1:=Int.mul_le_mul_of_nonneg_right a1 (show 0≤r.2 by omega)
 have b2:=Int.mul_le_mul_of_nonneg_right a2 (show 0≤p.2 by omega)
 have b3:=Int.mul_lt_mul_of_pos_right h hq
 grind
theorem mn_cases (p q:R2):(mnR p q=p∧¬ uE q p)∨(mnR p q=q∧uE q p):=by
 unfold mnR
 cases h:dec (uE q p)
 ·exact .inl ⟨rfl,yK.1 h⟩
 ·exact .inr ⟨rfl,yE.1 h⟩
theorem mx_cases (p q:R2):(mxR p q=p∧¬ uE p q)∨(mxR p q=q∧uE p q):=by
 unfold mxR
 cases h:dec (uE p q)
 ·exact .inl ⟨rfl,yK.1 h⟩
 ·exact .inr ⟨rfl,yE.1 h⟩
theorem lt_not {p q:R2} (h:uE p q):¬ uE q p:=by unfold uE at *; omega
structure Most (l:List R2) (x:SP):Prop where
 lo:x.1∈l
 hi:x.2∈l
 low:∀ p∈l,¬ uE p x.1
 high:∀ p∈l,¬ uE x.2 p
theorem Most.step {l:List R2} {x:SP} {p:R2} (hl:∀ q∈l,Good q) (hp:Good p) (h:Most l x):Most (l++[p]) (wider x p):=by
 have g1:=hl _ h.lo
 have g2:=hl _ h.hi
 unfold wider
 refine ⟨?_,?_,?_,?_⟩
 ·rcases mn_cases x.1 p with ⟨e,_⟩ | ⟨e,_⟩
  ·simp only [e]; exact List.mem_append_left _ h.lo
  ·simp only [e]; simp
 ·rcases mx_cases x.2 p with ⟨e,_⟩ | ⟨e,_⟩
  ·simp only [e]; exact List.mem_append_left _ h.hi
  ·simp only [e]; simp
 ·intro q hq
  rcases mn_cases x.1 p with ⟨e,e'⟩ | ⟨e,e'⟩ <;> simp only [e] <;> rcases List.mem_append.1 hq with hq | hq
  ·exact h.low q hq
  ·simp at hq
   subst hq
   exact e'
  ·exact not_less_trans hp.1 g1.1 (hl _ hq).1 (lt_not e') (h.low q hq)
  ·simp at hq
   subst hq
   exact lessR_irr _
 ·intro q hq
  rcases mx_cases x.2 p with ⟨e,e'⟩ | ⟨e,e'⟩ <;> simp only [e] <;> rcases List.mem_append.1 hq with hq | hq
  ·exact h.high q hq
  ·simp at hq
   subst hq
   exact e'
  ·exact not_less_trans (hl _ hq).1 g2.1 hp.1 (h.high q hq) (lt_not e')
  ·simp at hq
   subst hq
   exact lessR_irr _
theorem Most.fold:∀ {m l:List R2} {x:SP},(∀ q∈l,Good q)→(∀ q∈m,Good q)→Most l x→Most (l++m) (m.foldl wider x)
 | [],l,x,_,_,h => by simpa using h
 | p :: m,l,x,hl,hm,h => by
  have h1:=Most.step hl (hm p (by simp)) h
  have h2:=Most.fold (m:=m) (l:=l++[p]) (fun q hq => by
   rcases List.mem_append.1 hq with hq | hq
   ·exact hl q hq
   ·simp at hq
    subst hq
    exact hm q (by simp)) (fun q hq => hm q (by simp [hq])) h1
  simpa using h2
theorem Most.one (p:R2):Most [p] (p,p):=⟨by simp,by simp,fun q hq => by simp at hq; subst hq; exact lessR_irr _,fun q hq => by simp at hq; subst hq; exact lessR_irr _⟩
theorem Most.all {p:R2} {l:List R2} (hp:Good p) (hl:∀ q∈l,Good q):Most ([p]++l) (l.foldl wider (p,p)):=Most.fold (fun q hq => by simp at hq; subst hq; exact hp) hl (.one p)
theorem Most.uniq {l m:List R2} {x y:SP} (hl:∀ q∈l,Good q) (hm:∀ q∈m,Good q) (h1:Most l x) (h2:Most m y) (a:x.1∈m) (b:x.2∈m) (c:¬ uE y.1 x.1) (d:¬ uE x.2 y.2):x=y :=
 Prod.ext (Good.uniq (hl _ h1.lo) (hm _ h2.lo) (h2.low _ a) c) (Good.uniq (hl _ h1.hi) (hm _ h2.hi) d (h2.high _ b))
def jR:List C:=[.int .i64 0,.nilSl,.bool false,.int .i64 0,.nilSl,.bool false]
attribute [local irreducible] yA semH semC qLen qNil qIad qSlc qIdx yW yI xA appX appI slcX awpF yP xH xopF xM qval lval seqQ xJ xY xU xR cnd arith IntKind.wrap
end Go.Proofs.Ytokckcnfojjpjaa

namespace Go.Proofs.Ytokckcnfojjpjaa
open Go.RowKit
set_option maxRecDepth 20000
def rp (q:Rat):R2:=(q.num,(q.den:Int))
def rt (p:R2):Rat:=Rat.divInt p.1 p.2
theorem nI (q:Rat):0<(rp q).2:=by
 have:=q.den_pos
 unfold rp
 simp only
 omega
theorem rp_good (q:Rat):Good (rp q):=⟨nI q,q.reduced⟩
theorem rt_rp (q:Rat):rt (rp q)=q:=Rat.num_divInt_den q
theorem Red.rat {n d:Int} {p:R2} (h:Red n d p) (hd:d≠0):p=rp (Rat.divInt n d):=by
 have g:=rp_good (Rat.divInt n d)
 have e:(rp (Rat.divInt n d)).1*d=n*(rp (Rat.divInt n d)).2:=by
  have h0:=Rat.num_divInt_den (Rat.divInt n d)
  have hne:((Rat.divInt n d).den:Int)≠0:=by
   have:=(Rat.divInt n d).den_pos
   omega
  exact (Rat.divInt_eq_divInt_iff hne hd).1 h0
 generalize rp (Rat.divInt n d)=q at g e
 have a1:=h.eq
 have a2:p.1*q.2=q.1*p.2:=by
  have:(p.1*q.2)*d=(q.1*p.2)*d:=by
   have b1:=congrArg (·*q.2) a1
   have b2:=congrArg (·*p.2) e
   grind
  exact Int.eq_of_mul_eq_mul_right hd this
 obtain ⟨e1,e2⟩:=red_uniq h.gcd g.2 h.pos g.1 a2
 exact Prod.ext e1 e2
theorem Good.rp {p:R2} (h:Good p):rp (rt p)=p:=by
 have g:=rp_good (rt p)
 have e:(Go.Proofs.Ytokckcnfojjpjaa.rp (rt p)).1*p.2=p.1*(Go.Proofs.Ytokckcnfojjpjaa.rp (rt p)).2:=by
  have h0:=Rat.num_divInt_den (Rat.divInt p.1 p.2)
  have hne:((Rat.divInt p.1 p.2).den:Int)≠0:=by
   have:=(Rat.divInt p.1 p.2).den_pos
   omega
  exact (Rat.divInt_eq_divInt_iff hne (by have:=h.1; omega)).1 h0
 obtain ⟨e1,e2⟩:=red_uniq g.2 h.2 g.1 h.1 e
 exact Prod.ext e1 e2
theorem jS (a:Rat):((a.num:Int):Rat) / ((a.den:Int):Rat)=a:=by
 rw [←Rat.divInt_eq_div]
 exact Rat.num_divInt_den a
theorem den_ne (a:Rat):((a.den:Int):Rat)≠0:=by
 intro h
 have h2:(a.den:Int)=0:=Rat.intCast_inj.1 (by simpa using h)
 have:=a.den_pos
 omega
theorem rat_add (a b:Rat):Rat.divInt ((rp a).1*(rp b).2+(rp b).1*(rp a).2) ((rp a).2*(rp b).2)=a+b:=by
 have h1:=jS a
 have h2:=jS b
 have n1:=den_ne a
 have n2:=den_ne b
 unfold rp
 simp only
 rw [Rat.divInt_eq_div,Rat.intCast_add,Rat.intCast_mul,Rat.intCast_mul,Rat.intCast_mul]
 generalize ((a.num:Int):Rat)=x at *
 generalize ((b.num:Int):Rat)=z at *
 generalize ((a.den:Int):Rat)=y at *
 generalize ((b.den:Int):Rat)=w at *
 rw [←h1,←h2]
 grind
theorem rat_sub (a b:Rat):Rat.divInt ((rp a).1*(rp b).2 + -(rp b).1*(rp a).2) ((rp a).2*(rp b).2)=a - b:=by
 have h1:=jS a
 have h2:=jS b
 have n1:=den_ne a
 have n2:=den_ne b
 unfold rp
 simp only
 rw [Rat.divInt_eq_div,Rat.intCast_add,Rat.intCast_mul,Rat.intCast_mul,Rat.intCast_mul,Rat.intCast_neg]
 generalize ((a.num:Int):Rat)=x at *
 generalize ((b.num:Int):Rat)=z at *
 generalize ((a.den:Int):Rat)=y at *
 generalize ((b.den:Int):Rat)=w at *
 rw [←h1,←h2]
 grind
theorem rat_mul (a b:Rat):Rat.divInt ((rp a).1*(rp b).1) ((rp a).2*(rp b).2)=a*b:=by
 have h1:=jS a
 have h2:=jS b
 have n1:=den_ne a
 have n2:=den_ne b
 unfold rp
 simp only
 rw [Rat.divInt_eq_div,Rat.intCast_mul,Rat.intCast_mul]
 generalize ((a.num:Int):Rat)=x at *
 generalize ((b.num:Int):Rat)=z at *
 generalize ((a.den:Int):Rat)=y at *
 generalize ((b.den:Int):Rat)=w at *
 rw [←h1,←h2]
 grind
theorem num_ne {a:Rat} (h:a≠0):(rp a).1≠0:=fun e => h (Rat.num_eq_zero.1 e)
theorem rat_div (a b:Rat) (hb:b≠0):Rat.divInt ((rp a).1*(rp b).2) ((rp a).2*(rp b).1)=a / b:=by
 have h1:=jS a
 have h2:=jS b
 have n1:=den_ne a
 have n2:=den_ne b
 have n3:((b.num:Int):Rat)≠0:=fun e => num_ne hb (Rat.intCast_inj.1 (show ((b.num:Int):Rat)=((0:Int):Rat) from e))
 unfold rp
 simp only
 rw [Rat.divInt_eq_div,Rat.intCast_mul,Rat.intCast_mul]
 generalize ((a.num:Int):Rat)=x at *
 generalize ((b.num:Int):Rat)=z at *
 generalize ((a.den:Int):Rat)=y at *
 generalize ((b.den:Int):Rat)=w at *
 rw [←h1,←h2]
 grind
theorem rp_neg (a:Rat):rp (-a)=(-(rp a).1,(rp a).2):=by
 unfold rp
 rw [Rat.neg_num,Rat.neg_den]
theorem rp_int (n:Int):rp (n:Rat)=(n,1):=by
 unfold rp
 rw [Rat.num_intCast,Rat.den_intCast]
 rfl
theorem less_rp (a b:Rat):uE (rp a) (rp b)=(a<b):=by
 unfold uE rp
 exact propext (Rat.lt_iff a b).symm
noncomputable def cq (a b:Rat):Int:=cmpR (rp a) (rp b)
theorem cq_gtr (a b:Rat):yA Cm.gtr (cq a b) 0=dec (b<a):=by
 unfold cq
 rw [cmp_gtr,less_rp]
theorem cq_zero (a b:Rat):cq a b=0↔a=b:=by
 have h1:cq a b=0↔(¬ uE (rp a) (rp b))∧¬ uE (rp b) (rp a):=by
  unfold cq cmpR uE sgn
  split
  ·omega
  ·split <;> omega
 rw [h1,less_rp,less_rp,Rat.not_lt,Rat.not_lt]
 exact ⟨fun h => Rat.le_antisymm h.2 h.1,fun h => by subst h; exact ⟨Rat.le_refl,Rat.le_refl⟩⟩
theorem cq_eql (a b:Rat):yA Cm.eql (cq a b) 0=dec (a=b):=by
 show dec _=_
 rw [propext (cq_zero a b)]
structure IQ (k:Nat) (cs:List C) (q:Rat):Prop where
 is:IsQ cs (rp q)
 bd:Bd k (rp q)
structure IR (k:Nat) (cs:List C) (q:Rat):Prop where
 is:IsRQ cs (rp q).1 (rp q).2
 bd:Bd k (rp q)
def QV (k:Nat) (q:Rat) (u:V):Prop:=∃ cs,u=.agg cs∧IQ k cs q
def RQV (k:Nat) (q:Rat) (u:V):Prop:=∃ cs,u=.agg cs∧IR k cs q
theorem IQ.up {k m:Nat} {cs:List C} {q:Rat} (h:IQ k cs q) (hk:k≤m):IQ m cs q:=⟨h.is,h.bd.to hk⟩
theorem IR.up {k m:Nat} {cs:List C} {q:Rat} (h:IR k cs q) (hk:k≤m):IR m cs q:=⟨h.is,h.bd.to hk⟩
theorem IQ.hf {k:Nat} {cs:List C} {q:Rat} (h:IQ k cs q):HFL cs:=h.is.hf
theorem IR.hf {k:Nat} {cs:List C} {q:Rat} (h:IR k cs q):HFL cs:=h.is.hf
theorem IQ.six {k:Nat} {cs:List C} {q:Rat} (h:IQ k cs q):∃ a b c d e f,cs=[a,b,c,d,e,f]:=by
 obtain ⟨a,b,c,d,e,f,rfl,_⟩:=h.is.six
 exact ⟨_,_,_,_,_,_,rfl⟩
theorem IR.four {k:Nat} {cs:List C} {q:Rat} (h:IR k cs q):∃ a b c d,cs=[a,.bool b,c,.bool d]:=by
 obtain ⟨a,b,c,d,_,rfl,_⟩:=h.is.four
 exact ⟨_,_,_,_,rfl⟩
theorem QV.fz {k:Nat} {q:Rat} {cs:List C} {H:Hp} (h:IQ k cs q):∃ e,FzV H (.agg cs) e∧QV k q e:=⟨_,.agg (.hf h.hf),cs,rfl,h⟩
theorem RQV.fz {k:Nat} {q:Rat} {cs:List C} {H:Hp} (h:IR k cs q):∃ e,FzV H (.agg cs) e∧RQV k q e:=⟨_,.agg (.hf h.hf),cs,rfl,h⟩
theorem sC.rat {n d:Int} {q:Rat} {k:Nat} {u:V} (h:sC n d u) (hd:d≠0) (e:Rat.divInt n d=q) (h1:Sz k n) (h2:Sz k d):QV k q u:=by
 obtain ⟨cs,p,rfl,h3,red⟩:=h.red
 have b:=red.bd h1 h2
 obtain rfl:=red.rat hd
 rw [e] at h3 b
 exact ⟨cs,rfl,h3,b⟩
theorem RRK.rat {n d:Int} {q:Rat} {k:Nat} {u:V} (h:RRK n d u) (hd:d≠0) (e:Rat.divInt n d=q) (h1:Sz k n) (h2:Sz k d):RQV k q u:=by
 obtain ⟨cs,p,rfl,h3,red⟩:=h
 have b:=red.bd h1 h2
 obtain rfl:=red.rat hd
 rw [e] at h3 b
 exact ⟨cs,rfl,h3,b⟩
theorem dd_ne (a b:Rat):(rp a).2*(rp b).2≠0:=Int.ne_of_gt (Int.mul_pos (nI a) (nI b))
theorem wL.rp {p:R2} (h:wL p.1 p.2):rp (rt p)=p:=h.good.rp
theorem one_bd {k:Nat} {n:Int} (h:n.natAbs<4294967296):Bd (k+1) ((n,1):R2):=⟨(show Sz 1 n by unfold Sz; simpa using h).up (by omega),Sz.one,by simp⟩
attribute [local irreducible] yA semH semC qLen qNil qIad qSlc qIdx yW yI xA appX appI slcX awpF yP xH xopF xM qval lval seqQ xJ xY xU xR cnd arith IntKind.wrap
theorem q_Of {p:R2} (h:wL p.1 p.2):semC Try.prog n_num_Of [.agg (ratC p)] (QV 2 (rt p)):=by
 refine uO (fun u hu => ?_) (num_Of h)
 obtain ⟨cs,rfl,h1⟩:=hu
 exact ⟨cs,rfl,by rw [h.rp]; exact h1,by rw [h.rp]; exact h.bd⟩
theorem sA {g:Int} (h:g.natAbs<4294967296):semC Try.prog n_num_Int [i64 g] (QV 1 (g:Rat)):=by
 refine uO (fun u hu => ?_) (num_Int (g:=g) (by omega) (by omega))
 obtain ⟨cs,rfl,h1⟩:=hu
 exact ⟨cs,rfl,by rw [rp_int]; exact h1,by rw [rp_int]; exact one_bd (k:=0) h⟩
theorem q_Neg {k:Nat} {cs:List C} {a:Rat} (hx:IQ k cs a) (hk:k≤268435456):semC Try.prog n_num_Q_Neg [.agg cs] (QV k (-a)):=by
 refine uO (fun u hu => ?_) (num_Q_Neg hx.is hx.bd hk)
 obtain ⟨cs,rfl,h1⟩:=hu
 exact ⟨cs,rfl,by rw [rp_neg]; exact h1,by rw [rp_neg]; exact ⟨hx.bd.n.neg,hx.bd.d,hx.bd.pos⟩⟩
theorem q_Cmp {k:Nat} {cs ds:List C} {a b:Rat} (hx:IQ k cs a) (hy:IQ k ds b) (hk:k≤268435456):semC Try.prog n_num_Q_Cmp [.agg cs,.agg ds] (IntK (cq a b)):=num_Q_Cmp hx.is hy.is hx.bd hy.bd hk
end Go.Proofs.Ytokckcnfojjpjaa

namespace Go.Proofs.Ytokckcnfojjpjaa
open Go.RowKit
set_option maxRecDepth 20000
structure El (α:Type) where
 p:List C→α→Prop
 s:Nat
 len:∀ {cs:List C} {a:α},p cs a→cs.length=s
 hf:∀ {cs:List C} {a:α},p cs a→HFL cs
def elQ (k:Nat):El Rat:=⟨IQ k,6,fun h => by obtain ⟨_,_,_,_,_,_,rfl⟩:=h.six; rfl,fun h => h.hf⟩
def elP:El R2:=⟨fun cs p => cs=ratC p,2,fun h => by subst h; rfl,fun h => by subst h; exact qU _⟩
section
variable {α:Type} {E:El α}
inductive Els (E:El α):List C→List α→Prop
 | nil:Els E [] []
 | cons {cs ds:List C} {a:α} {l:List α} (h:E.p cs a) (t:Els E ds l):Els E (cs++ds) (a :: l)
theorem Els.len:∀ {ds:List C} {l:List α},Els E ds l→ds.length=l.length*E.s
 | _,_,.nil => by simp
 | _,_,.cons h t => by
  rw [List.length_append,E.len h,t.len,List.length_cons,Nat.add_mul]
  omega
theorem Els.hf:∀ {ds:List C} {l:List α},Els E ds l→HFL ds
 | _,_,.nil => trivial
 | _,_,.cons h t => HFL_app (E.hf h) t.hf
theorem Els.append:∀ {ds es:List C} {l m:List α},Els E ds l→Els E es m→Els E (ds++es) (l++m)
 | _,_,_,_,.nil,h => h
 | _,_,_,_,.cons h t,h2 => by
  rw [List.append_assoc]
  exact .cons h (t.append h2)
theorem Els.one {cs:List C} {a:α} (h:E.p cs a):Els E cs [a]:=by
 have:=Els.cons h .nil
 simpa using this
theorem Els.snoc {ds cs:List C} {l:List α} {a:α} (h:Els E ds l) (h2:E.p cs a):Els E (ds++cs) (l++[a]):=h.append (.one h2)
theorem Els.get:∀ {ds:List C} {l:List α} {i:Nat},Els E ds l→(hi:i<l.length)→∃ cs r,E.p cs l[i]∧ds.drop (i*E.s)=cs++r
 | _,_,i,.nil,hi => by simp at hi
 | _,_,0,.cons h t,hi => ⟨_,_,h,by simp; rfl⟩
 | _,_,i+1,.cons (cs:=cs) (ds:=ds) h t,hi => by
  have hi':i<_:=Nat.lt_of_succ_lt_succ hi
  obtain ⟨es,r,h1,h2⟩:=t.get hi'
  refine ⟨es,r,h1,?_⟩
  rw [←h2,Nat.add_mul,Nat.one_mul,←E.len h,Nat.add_comm,List.drop_append]
  simp
theorem Els.take:∀ {ds:List C} {l:List α} (n:Nat),Els E ds l→Els E (ds.take (n*E.s)) (l.take n)
 | _,_,n,.nil => by simpa using Els.nil
 | _,_,0,.cons h t => by simpa using Els.nil
 | _,_,n+1,.cons (cs:=cs) (ds:=ds) h t => by
  have e:(cs++ds).take ((n+1)*E.s)=cs++ds.take (n*E.s):=by
   rw [Nat.add_mul,Nat.one_mul,←E.len h,Nat.add_comm,List.take_append,List.take_of_length_le (by omega)]
   simp
  rw [e,List.take_succ_cons]
  exact .cons h (t.take n)
theorem Els.drop:∀ {ds:List C} {l:List α} (n:Nat),Els E ds l→Els E (ds.drop (n*E.s)) (l.drop n)
 | _,_,n,.nil => by simpa using Els.nil
 | _,_,0,.cons h t => by simpa using Els.cons h t
 | _,_,n+1,.cons (cs:=cs) (ds:=ds) h t => by
  have e:(cs++ds).drop ((n+1)*E.s)=ds.drop (n*E.s):=by
   rw [Nat.add_mul,Nat.one_mul,←E.len h,Nat.add_comm,List.drop_append]
   simp
  rw [e,List.drop_succ_cons]
  exact t.drop n
theorem Els.set {ds cs:List C} {l:List α} {a:α} {i:Nat} (h:Els E ds l) (hi:i<l.length) (ha:E.p cs a):Els E (splice ds (i*E.s) cs) (l.set i a):=by
 have h1:=h.take i
 have h2:=h.drop (i+1)
 have e:l.set i a=l.take i++([a]++l.drop (i+1)):=by
  rw [List.set_eq_take_append_cons_drop,if_pos hi]
  rfl
 rw [e]
 have e2:splice ds (i*E.s) cs=ds.take (i*E.s)++(cs++ds.drop ((i+1)*E.s)):=by
  unfold splice
  rw [E.len ha,Nat.add_mul,Nat.one_mul,List.append_assoc]
 rw [e2]
 exact h1.append ((Els.one ha).append h2)
theorem Els.mono {F:El α} (hp:∀ cs a,E.p cs a→F.p cs a):∀ {ds:List C} {l:List α},Els E ds l→Els F ds l
 | _,_,.nil => .nil
 | _,_,.cons h t => .cons (hp _ _ h) (t.mono hp)
inductive Ls (E:El α):C→List α→Prop
 | nil:Ls E .nilSl []
 | imm {ds:List C} {l:List α} (h:Els E ds l):Ls E (.imm l.length ds) l
theorem Ls.hf {c:C} {l:List α} (h:Ls E c l):HFC c:=by
 cases h with
 | nil => trivial
 | imm h => exact h.hf
theorem Ls.mono {F:El α} (hp:∀ cs a,E.p cs a→F.p cs a) {c:C} {l:List α} (h:Ls E c l):Ls F c l:=by
 cases h with
 | nil => exact .nil
 | imm h => exact .imm (h.mono hp)
def C.ds:C→List C
 | .imm _ ds => ds
 | _ => []
theorem Ls.els {c:C} {l:List α} (h:Ls E c l):Els E c.ds l:=by
 cases h with
 | nil => exact .nil
 | imm h => exact h
def LsK (E:El α) (l:List α) (u:V):Prop:=∃ c,u=.c c∧Ls E c l
theorem LsK.fz {l:List α} {c:C} {H:Hp} (h:Ls E c l):∃ d,FzV H (.c c) d∧LsK E l d:=⟨_,.c (.hf h.hf),c,rfl,h⟩
theorem tX {x:Option V} {c:C} {l:List α} {K:V→Prop} (h:x=some (.c c)) (hc:Ls E c l) (k:K (.c (.int .i64 l.length))):qLen x K:=by
 subst h
 cases hc
 ·exact wD rfl k
 ·exact wE rfl k
theorem tY {x i:Option V} {c:C} {l:List α} {es:Nat} {K:V→Prop} {k:IntKind} {n:Int} (h:x=some (.c c)) (h2:i=some (.c (.int k n))) (hc:Ls E c l) (h3:0≤n) (h4:n<l.length) (hk:K (.c (.ipt (c.ds.drop (n.toNat*es))))):qIad none es x i K:=by
 subst h h2
 cases hc with
 | nil => simp at h4; omega
 | imm => exact vD rfl rfl h3 h4 hk
theorem uX {c:C} {l:List α} {es n i:Nat} {K:V→Prop} (hc:Ls E c l) (hi:i<l.length) (hn:n=i) (he:E.s=es) (k:∀ cs,E.p cs l[i]→K (.agg cs)):yI (c.ds.drop (n*es)) true es K:=by
 subst hn he
 obtain ⟨cs,r,h1,h2⟩:=hc.els.get hi
 rw [h2]
 refine xZ (by rw [List.length_append,E.len h1]; omega) ?_
 rw [List.take_left' (E.len h1)]
 exact k cs h1
theorem slc_ls {e:Env} {es:Nat} {x:Option V} {lo hi:Option AO} {c:C} {l:List α} {a b:Int} {K:V→Prop} (h:x=some (.c c)) (hc:Ls E c l) (he:E.s=es) (h1:bnd e 0 lo=some a) (h2:bnd e l.length hi=some b) (h3:0≤a) (h4:a≤b) (h5:b≤l.length)
  (k:∀ c',Ls E c' ((l.drop a.toNat).take (b.toNat - a.toNat))→K (.c c')):qSlc e es x lo hi none K:=by
 subst h he
 cases hc with
 | nil =>
  simp only [List.length_nil] at h2 h5
  have h2':bnd e 0 hi=some b:=by simpa using h2
  simp only [qSlc,h1,h2']
  refine xF (by simp; omega) (k _ (by simpa using Ls.nil))
 | imm hd =>
  simp only [qSlc,h1,h2]
  refine xF (by simp; omega) (k _ ?_)
  have e1:((l.drop a.toNat).take (b.toNat - a.toNat)).length=b.toNat - a.toNat:=by simp; omega
  have:=Ls.imm ((hd.drop a.toNat).take (b.toNat - a.toNat))
  rwa [e1] at this
inductive Out (E:El α) (el:TypeId) (m:Nat) (H:Hp):C→List α→Prop
 | nil:Out E el m H .nilSl []
 | sl {b n:Nat} {co:Option Nat} {cells ds:List C} {l:List α} (hm:m≤b) (hb:H[b]?=some (.live ⟨cells,el,.rw⟩)) (hn:n=l.length) (hc:cells.take (l.length*E.s)=ds) (h:Els E ds l):Out E el m H (.sl b 0 n co E.s) l
theorem Out.fz {el:TypeId} {m:Nat} {H:Hp} {c:C} {l:List α} {p:BK→Prop} (h:Out E el m H c l) (hp:p .rw):∃ d,Fz p H c d∧Ls E d l:=by
 cases h with
 | nil => exact ⟨_,.hf trivial,.nil⟩
 | sl hm hb hn hc h =>
  subst hn
  refine ⟨_,.sl hb hp (by simp) ?_,.imm h⟩
  simp only [List.drop_zero]
  rw [hc]
  exact .hf h.hf
theorem Out.done {el:TypeId} {m:Nat} {H:Hp} {c:C} {l:List α} (h:Out E el m H c l):∃ d,FzV H (.c c) d∧LsK E l d:=by
 obtain ⟨d,h1,h2⟩:=h.fz (p:=(·≠.bor)) (by simp)
 exact ⟨_,.c h1,d,rfl,h2⟩
end
end Go.Proofs.Ytokckcnfojjpjaa
