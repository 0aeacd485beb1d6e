/-
  Parts of the proof: num: Over, IsInt, Int, Mul, Floor, Ceil, Down, Up.
-/
import Derived.Test.YtokckcnfojjpjaaNg17
set_option linter.unusedVariables false
set_option linter.unusedSimpArgs false
namespace Go.Proofs.Ytokckcnfojjpjaa
open Go.RowKit
set_option maxRecDepth 20000
theorem sgn_neg_iff (z:Int):sgn z<0↔z<0:=by
 unfold sgn
 split
 ·omega
 ·split <;> omega
theorem sgn_zero_iff (z:Int):sgn z=0↔z=0:=by
 unfold sgn
 split
 ·omega
 ·split <;> omega
theorem Sz.up {n m:Nat} {z:Int} (h:Sz n z) (hm:n≤m):Sz m z:=Nat.lt_of_lt_of_le h (Nat.pow_le_pow_right (by decide) hm)
theorem Sz.one {n:Nat}:Sz (n+1) 1:=by
 unfold Sz
 rw [Nat.pow_succ]
 have:=Nat.pow_pos (n:=n) (show 0<4294967296 by decide)
 omega
theorem gcd_le {n d:Int} (hd:d≠0):((Int.gcd n d:Nat):Int).natAbs≤d.natAbs:=by
 rw [Int.natAbs_natCast]
 exact Nat.le_of_dvd (by omega) (Nat.gcd_dvd_right _ _)
theorem ediv_le {a b:Int} (hb:0<b):(a / b).natAbs≤a.natAbs:=by
 rw [floor_eq hb]
 have h1:=nC a b
 split
 ·rename_i h
  have e:=Int.mul_tdiv_add_tmod a b
  rcases Int.lt_trichotomy a 0 with ha | ha | ha
  ·-- a<0: the quotient is at most 0,and one less is at least a
   rcases Int.lt_or_le (a.tdiv b) 1 with hq | hq
   ·have h2:a.tdiv b*b≤a.tdiv b*1:=Int.mul_le_mul_of_nonpos_left (by omega) (by omega)
    rw [Int.mul_comm b] at e
    omega
   ·have h2:0<b*a.tdiv b:=Int.mul_pos hb (by omega)
    have h3:=Int.tmod_lt_of_pos a hb
    omega
  ·subst ha
   simp at h
  ·have:=Int.tmod_nonneg b (a:=a) (by omega)
   omega
 ·exact h1
attribute [local irreducible] yA semH semC qLen qNil qIad qSlc qIdx yW yI xA appX appI slcX awpF yP xH xopF xM qval lval seqQ xJ xY xU xR cnd arith IntKind.wrap
set_option maxHeartbeats 1000000 in
theorem pC {S:Int→Prop} {k:Nat} (hS:SCl S k) (hQ:QuoOk S) {cs ds:List C} {n d:Int} (hx:IsZ cs n) (hy:IsZ ds d) (sn:S n) (sd:S d) (h0:d≠0):semC Try.prog n_num_Over [.agg cs,.agg ds] (sC n d):=by
 refine yD ok_num_Over rfl (show HFVs [.agg cs,.agg ds] from ⟨hx.hf,hy.hf,trivial⟩) ?_
 obtain ⟨a1,a2,a3,rfl⟩:=hx.three
 obtain ⟨b1,b2,b3,rfl⟩:=hy.three
 have hk:=hS.n
 refine go2 ?_
 refine yB (pL hy) (fun u hu => ?_)
 obtain rfl:=hu
 refine go2 ?_
 cases hc:yA Cm.lss (sgn d) 0
 case false =>
  have hp:0<d:=by
   simp only [yA,yK] at hc
   have:=(sgn_neg_iff d).2
   omega
  have rel:∀ a b:Int,a*d=n*b→a*d=n*b:=fun _ _ h => h
  have en:n.natAbs=n.natAbs:=rfl
  have ed:d.natAbs=d.natAbs:=rfl
  have hn1:=hx
  have hd1:=hy
  have sn1:=sn
  have sd1:=sd
  refine go2 ?_
  refine yB (num_Gcd hS hQ hn1 hd1 sn1 sd1) (fun u hu => ?_)
  obtain ⟨gs,rfl,hg⟩:=hu
  obtain ⟨t1,t2,t3⟩:=gcd_tdiv (n:=n) (d:=d) hp
  have sg:S ((Int.gcd n d:Nat):Int):=hS.le _ _ sd1 (gcd_le (by omega))
  have g0:0<Int.gcd n d:=Int.gcd_pos_of_ne_zero_right _ (by omega)
  have fin:∀ {H:Hp} {q r:List C},IsZ q (n.tdiv (Int.gcd n d:Nat))→IsZ r (d.tdiv (Int.gcd n d:Nat))→∃ e,FzV H (.agg (q++r)) e∧sC n d e:=fun h1 h2 =>
   sC.fz (p:=(n.tdiv (Int.gcd n d:Nat),d.tdiv (Int.gcd n d:Nat))) (.mk h1 h2) t3 t1 (rel _ _ t2) (by have:=nC n (Int.gcd n d:Nat); simp only; omega) (by have:=nC d (Int.gcd n d:Nat); simp only; omega)
  have hg':=hg
  obtain ⟨c1,c2,c3,rfl⟩:=hg'.three
  refine go2 ?_
  rcases hg.look with ⟨ex,x1,x2⟩ | ⟨lx,nx,ex,xn,xv,xe⟩
  ·simp only [List.cons.injEq,and_true] at ex
   obtain ⟨rfl,rfl,rfl⟩:=ex
   refine go2 ?_
   cases hq:yA Cm.neq ((Int.gcd n d:Nat):Int) 1
   case false =>
    simp only [yA,yK] at hq
    have e1:((Int.gcd n d:Nat):Int)=1:=Decidable.byContradiction hq
    rw [e1,Int.tdiv_one,Int.tdiv_one] at fin
    refine go2 ?_
    exact fin hn1 hd1
   case true =>
    refine go2 ?_
    refine yB (hQ _ _ _ _ hn1 hg sn1 sg (by omega)) (fun u hu => ?_)
    obtain ⟨es,fs,rfl,h1,h2⟩:=hu
    obtain ⟨q1,q2,q3,rfl⟩:=h1.three
    obtain ⟨_,_,_,rfl⟩:=h2.three
    refine go2 ?_
    refine yB (hQ _ _ _ _ hd1 hg sd1 sg (by omega)) (fun u hu => ?_)
    obtain ⟨es,fs,rfl,h3,h4⟩:=hu
    obtain ⟨r1,r2,r3,rfl⟩:=h3.three
    obtain ⟨_,_,_,rfl⟩:=h4.three
    refine go2 ?_
    exact fin h1 h3
  ·simp only [List.cons.injEq,and_true] at ex
   obtain ⟨rfl,rfl,rfl⟩:=ex
   refine go2 ?_
   refine yB (hQ _ _ _ _ hn1 hg sn1 sg (by omega)) (fun u hu => ?_)
   obtain ⟨es,fs,rfl,h1,h2⟩:=hu
   obtain ⟨q1,q2,q3,rfl⟩:=h1.three
   obtain ⟨_,_,_,rfl⟩:=h2.three
   refine go2 ?_
   refine yB (hQ _ _ _ _ hd1 hg sd1 sg (by omega)) (fun u hu => ?_)
   obtain ⟨es,fs,rfl,h3,h4⟩:=hu
   obtain ⟨r1,r2,r3,rfl⟩:=h3.three
   obtain ⟨_,_,_,rfl⟩:=h4.three
   refine go2 ?_
   exact fin h1 h3
 case true =>
  have hp:0 < -d:=by
   simp only [yA,yE] at hc
   have:=(sgn_neg_iff d).1 hc
   omega
  refine go2 ?_
  refine yS (bP hx (hS.sz _ sn) (by omega)) (fun u hu => ?_)
  obtain ⟨es,rfl,hn1⟩:=hu
  refine go2 ?_
  refine yS (bP hy (hS.sz _ sd) (by omega)) (fun u hu => ?_)
  obtain ⟨fs,rfl,hd1⟩:=hu
  obtain ⟨a1,a2,a3,rfl⟩:=hn1.three
  obtain ⟨b1,b2,b3,rfl⟩:=hd1.three
  have rel:∀ a b:Int,a * -d = -n*b→a*d=n*b:=fun a b h => by
   rw [Int.mul_neg,Int.neg_mul] at h
   omega
  have en:(-n).natAbs=n.natAbs:=Int.natAbs_neg n
  have ed:(-d).natAbs=d.natAbs:=Int.natAbs_neg d
  have sn1:S (-n):=hS.le _ _ sn (by omega)
  have sd1:S (-d):=hS.le _ _ sd (by omega)
  generalize -n=n1 at hn1 rel en sn1
  generalize -d=d1 at hd1 rel ed hp sd1
  refine go2 ?_
  refine goN ?_
  refine yB (num_Gcd hS hQ hn1 hd1 sn1 sd1) (fun u hu => ?_)
  obtain ⟨gs,rfl,hg⟩:=hu
  obtain ⟨t1,t2,t3⟩:=gcd_tdiv (n:=n1) (d:=d1) hp
  have sg:S ((Int.gcd n1 d1:Nat):Int):=hS.le _ _ sd1 (gcd_le (by omega))
  have g0:0<Int.gcd n1 d1:=Int.gcd_pos_of_ne_zero_right _ (by omega)
  have fin:∀ {H:Hp} {q r:List C},IsZ q (n1.tdiv (Int.gcd n1 d1:Nat))→IsZ r (d1.tdiv (Int.gcd n1 d1:Nat))→∃ e,FzV H (.agg (q++r)) e∧sC n d e:=fun h1 h2 =>
   sC.fz (p:=(n1.tdiv (Int.gcd n1 d1:Nat),d1.tdiv (Int.gcd n1 d1:Nat))) (.mk h1 h2) t3 t1 (rel _ _ t2) (by have:=nC n1 (Int.gcd n1 d1:Nat); simp only; omega) (by have:=nC d1 (Int.gcd n1 d1:Nat); simp only; omega)
  have hg':=hg
  obtain ⟨c1,c2,c3,rfl⟩:=hg'.three
  refine go2 ?_
  rcases hg.look with ⟨ex,x1,x2⟩ | ⟨lx,nx,ex,xn,xv,xe⟩
  ·simp only [List.cons.injEq,and_true] at ex
   obtain ⟨rfl,rfl,rfl⟩:=ex
   refine go2 ?_
   cases hq:yA Cm.neq ((Int.gcd n1 d1:Nat):Int) 1
   case false =>
    simp only [yA,yK] at hq
    have e1:((Int.gcd n1 d1:Nat):Int)=1:=Decidable.byContradiction hq
    rw [e1,Int.tdiv_one,Int.tdiv_one] at fin
    refine go2 ?_
    exact fin hn1 hd1
   case true =>
    refine go2 ?_
    refine yB (hQ _ _ _ _ hn1 hg sn1 sg (by omega)) (fun u hu => ?_)
    obtain ⟨es,fs,rfl,h1,h2⟩:=hu
    obtain ⟨q1,q2,q3,rfl⟩:=h1.three
    obtain ⟨_,_,_,rfl⟩:=h2.three
    refine go2 ?_
    refine yB (hQ _ _ _ _ hd1 hg sd1 sg (by omega)) (fun u hu => ?_)
    obtain ⟨es,fs,rfl,h3,h4⟩:=hu
    obtain ⟨r1,r2,r3,rfl⟩:=h3.three
    obtain ⟨_,_,_,rfl⟩:=h4.three
    refine go2 ?_
    exact fin h1 h3
  ·simp only [List.cons.injEq,and_true] at ex
   obtain ⟨rfl,rfl,rfl⟩:=ex
   refine go2 ?_
   refine yB (hQ _ _ _ _ hn1 hg sn1 sg (by omega)) (fun u hu => ?_)
   obtain ⟨es,fs,rfl,h1,h2⟩:=hu
   obtain ⟨q1,q2,q3,rfl⟩:=h1.three
   obtain ⟨_,_,_,rfl⟩:=h2.three
   refine go2 ?_
   refine yB (hQ _ _ _ _ hd1 hg sd1 sg (by omega)) (fun u hu => ?_)
   obtain ⟨es,fs,rfl,h3,h4⟩:=hu
   obtain ⟨r1,r2,r3,rfl⟩:=h3.three
   obtain ⟨_,_,_,rfl⟩:=h4.three
   refine go2 ?_
   exact fin h1 h3
theorem gU {cs:List C} {p:R2} {k:Nat} (hx:IsQ cs p) (sp:Sz k p.2) (hk:k≤268435456):semC Try.prog n_num_Q_IsInt [.agg cs] (sJ (p.2=1)):=by
 refine yD ok_num_Q_IsInt rfl (show HFVs [.agg cs] from ⟨hx.hf,trivial⟩) ?_
 obtain ⟨a,b,c,d,e,f,rfl,h1,h2⟩:=hx.six
 refine go2 ?_
 refine yS (gR 1 (by omega) (by omega)) (fun u hu => ?_)
 obtain ⟨gs,rfl,h3⟩:=hu
 refine go2 ?_
 refine yS (num_Z_Cmp (n:=k+1) h2 h3 (sp.up (by omega)) .one (by omega)) (fun u hu => ?_)
 obtain rfl:=hu
 refine go2 ?_
 refine sJ.fz ?_
 simp only [yA,yE,sgn_zero_iff]
 omega
theorem num_Int {g:Int} (h1:-9223372036854775808≤g) (h2:g<9223372036854775808):semC Try.prog n_num_Int [i64 g] (QK (g,1)):=by
 refine yD ok_num_Int rfl (show HFVs [i64 g] from ⟨trivial,trivial⟩) ?_
 refine go2 ?_
 refine yB (gR g h1 h2) (fun u hu => ?_)
 obtain ⟨es,rfl,h3⟩:=hu
 refine go2 ?_
 refine yB (gR 1 (by omega) (by omega)) (fun u hu => ?_)
 obtain ⟨fs,rfl,h4⟩:=hu
 obtain ⟨a,b,c,rfl⟩:=h3.three
 obtain ⟨d,e,f,rfl⟩:=h4.three
 refine go2 ?_
 exact QK.fz (p:=(g,1)) (.of h3 h4)
theorem num_Q_Floor {S:Int→Prop} {n:Nat} (hS:SCl S n) (hQ:QuoOk S) {cs:List C} {p:R2} (hx:IsQ cs p) (s1:S p.1) (s2:S p.2) (h0:0<p.2):semC Try.prog n_num_Q_Floor [.agg cs] (ZK (p.1 / p.2)):=by
 refine yD ok_num_Q_Floor rfl (show HFVs [.agg cs] from ⟨hx.hf,trivial⟩) ?_
 obtain ⟨a,b,c,d,e,f,rfl,h1,h2⟩:=hx.six
 refine go2 ?_
 refine yB (num_Z_Floor hS hQ h1 h2 s1 s2 h0) (fun u hu => ?_)
 obtain ⟨es,rfl,h3⟩:=hu
 obtain ⟨a,b,c,rfl⟩:=h3.three
 refine go2 ?_
 exact ZK.fz h3
theorem num_Q_Mul {S:Int→Prop} {n k:Nat} (hS:SCl S n) (hQ:QuoOk S) {cs ds:List C} {p q:R2} (hx:IsQ cs p) (hy:IsQ ds q) (bp:Bd k p) (bq:Bd k q) (hk:k≤268435456) (s1:S (p.1*q.1)) (s2:S (p.2*q.2)):semC Try.prog n_num_Q_Mul [.agg cs,.agg ds] (sC (p.1*q.1) (p.2*q.2)):=by
 refine yD ok_num_Q_Mul rfl (show HFVs [.agg cs,.agg ds] from ⟨hx.hf,hy.hf,trivial⟩) ?_
 obtain ⟨a,b,c,d,e,f,rfl,h1,h2⟩:=hx.six
 obtain ⟨a',b',c',d',e',f',rfl,h3,h4⟩:=hy.six
 have hpos:0<p.2*q.2:=Int.mul_pos bp.pos bq.pos
 refine go2 ?_
 refine yB (gU hx bp.d hk) (fun u hu => ?_)
 obtain ⟨z1,rfl,i1⟩:=hu
 cases z1
 case false =>
  refine go2 ?_
  refine yS (uF h1 h3 bp.n bq.n (by omega)) (fun u hu => ?_)
  obtain ⟨es,rfl,h5⟩:=hu
  refine go2 ?_
  refine yS (uF h2 h4 bp.d bq.d (by omega)) (fun u hu => ?_)
  obtain ⟨fs,rfl,h6⟩:=hu
  refine go2 ?_
  refine yS (pC hS hQ h5 h6 s1 s2 (by omega)) (fun u hu => ?_)
  obtain ⟨gs,r,rfl,r1,r2,r3,r4,r5,r6⟩:=hu
  obtain ⟨x,y,z,w,v,t,rfl,_⟩:=r1.six
  refine go2 ?_
  exact sC.fz r1 r2 r3 r4 r5 r6
 case true =>
  have e1:=i1.1 rfl
  refine go2 ?_
  refine yB (gU hy bq.d hk) (fun u hu => ?_)
  obtain ⟨z2,rfl,i2⟩:=hu
  cases z2
  case false =>
   refine go2 ?_
   refine yS (uF h1 h3 bp.n bq.n (by omega)) (fun u hu => ?_)
   obtain ⟨es,rfl,h5⟩:=hu
   refine go2 ?_
   refine yS (uF h2 h4 bp.d bq.d (by omega)) (fun u hu => ?_)
   obtain ⟨fs,rfl,h6⟩:=hu
   refine go2 ?_
   refine yS (pC hS hQ h5 h6 s1 s2 (by omega)) (fun u hu => ?_)
   obtain ⟨gs,r,rfl,r1,r2,r3,r4,r5,r6⟩:=hu
   obtain ⟨x,y,z,w,v,t,rfl,_⟩:=r1.six
   refine go2 ?_
   exact sC.fz r1 r2 r3 r4 r5 r6
  case true =>
   have e2:=i2.1 rfl
   refine go2 ?_
   refine yS (uF h1 h3 bp.n bq.n (by omega)) (fun u hu => ?_)
   obtain ⟨es,rfl,h5⟩:=hu
   obtain ⟨x,y,z,rfl⟩:=h5.three
   refine go2 ?_
   refine sC.fz (p:=(p.1*q.1,p.2)) (.of h5 h2) bp.pos ?_ ?_ (Nat.le_refl _) ?_
   ·rw [e1]
    simp
   ·rw [e1,e2]
    simp
   ·rw [e1,e2]
    simp
end Go.Proofs.Ytokckcnfojjpjaa

namespace Go.Proofs.Ytokckcnfojjpjaa
open Go.RowKit
set_option maxRecDepth 20000
def OkQ (k:Nat) (e:Cv):Prop:=IsQ e.1 e.2∧Bd k e.2
theorem OkQ.len {k:Nat} {e:Cv} (h:OkQ k e):e.1.length=6:=by
 obtain ⟨a,b,c,d,e,f,h1,_⟩:=h.1.six
 rw [h1]
 rfl
structure Red (n d:Int) (p:R2):Prop where
 pos:0<p.2
 gcd:Int.gcd p.1 p.2=1
 eq:p.1*d=n*p.2
 n:p.1.natAbs≤n.natAbs
 d:p.2.natAbs≤d.natAbs
theorem sC.red {n d:Int} {u:V} (h:sC n d u):∃ cs p,u=.agg cs∧IsQ cs p∧Red n d p:=by
 obtain ⟨cs,p,h1,h2,h3,h4,h5,h6,h7⟩:=h
 exact ⟨cs,p,h1,h2,h3,h4,h5,h6,h7⟩
theorem Red.bd {n d:Int} {p:R2} {k:Nat} (h:Red n d p) (h1:Sz k n) (h2:Sz k d):Bd k p:=⟨Nat.lt_of_le_of_lt h.n h1,Nat.lt_of_le_of_lt h.d h2,h.pos⟩
attribute [local irreducible] yA semH semC qLen qNil qIad qSlc qIdx yW yI xA appX appI slcX awpF yP xH xopF xM qval lval seqQ xJ xY xU xR cnd arith IntKind.wrap
def OutwK (x:SP) (g:Int) (u:V):Prop:=∃ lo hi,Red (x.1.1*g / x.1.2) g lo∧Red (-(-(x.2.1*g) / x.2.2)) g hi∧u=toldV (lo,hi)
end Go.Proofs.Ytokckcnfojjpjaa
