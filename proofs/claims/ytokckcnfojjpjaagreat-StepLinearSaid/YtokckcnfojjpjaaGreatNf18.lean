/-
  Parts of the proof: The number laws of long division: one round, the beginning, the end; shifting back.
-/
import Derived.Test.YtokckcnfojjpjaaGreatNf17
set_option linter.unusedVariables false
set_option linter.unusedSimpArgs false
namespace Go.Proofs.YtokckcnfojjpjaaGreat
open Go.RowKit
set_option maxRecDepth 20000
theorem pow31 {n:Nat} (h:n≤31):2 ^ n≤2147483648:=by
 have:=Nat.pow_le_pow_right (n:=2) (by decide) h
 simpa using this
theorem pow32 {n:Nat} (h:n≤32):2 ^ n≤4294967296:=by
 have:=Nat.pow_le_pow_right (n:=2) (by decide) h
 simpa using this
theorem val_drop_set {l:List Nat} {i w:Nat} (h:i<l.length):val ((l.set i w).drop i)=w+4294967296*val (l.drop (i+1)):=by
 have e:(l.set i w).drop i=w :: l.drop (i+1):=by
  rw [uJ (by simpa using h)]
  have e1:at0 (l.set i w) i=w:=by simp [at0,h]
  rw [e1,List.drop_set_of_lt (by omega)]
 rw [e]
 rfl
theorem parts_eq (xs:List Nat) (i k:Nat):xs.take i++(xs.drop i).take (k+1)++xs.drop (i+k+1)=xs:=by
 have e:xs.drop (i+k+1)=(xs.drop i).drop (k+1):=by rw [List.drop_drop]; congr 1
 rw [e,List.append_assoc,List.take_append_drop,List.take_append_drop]
theorem parts_round {xs out:List Nat} {i k Y T:Nat} (ox:OkW xs) (hl:i+k+1≤xs.length) (hY:0<Y) (hYk:Y<4294967296 ^ k) (h1:val xs+4294967296 ^ (i+1)*val (out.drop (i+1))*Y=T) (h2:val (xs.drop (i+1))<Y) (hi:i<out.length) :
  val ((xs.drop i).take (k+1))<Y*4294967296∧∀ seg,seg.length=k+1→val seg=val ((xs.drop i).take (k+1)) % Y →
   val (xs.take i++seg++xs.drop (i+k+1))+4294967296 ^ i*val ((out.set i (val ((xs.drop i).take (k+1)) / Y)).drop i)*Y=T∧val ((xs.take i++seg++xs.drop (i+k+1)).drop i)<Y:=by
 have e0:(xs.drop i).take (k+1)=at0 xs i :: (xs.drop (i+1)).take k:=by rw [uJ (by omega),List.take_succ_cons]
 have e1:val ((xs.drop i).take (k+1))=at0 xs i+4294967296*val ((xs.drop (i+1)).take k):=by rw [e0]; rfl
 have hs:=qE (xs.drop (i+1)) k
 have e2:((xs.drop (i+1)).take k).length=k:=by simp; omega
 have e3:(xs.drop (i+1)).drop k=xs.drop (i+k+1):=by rw [List.drop_drop]; congr 1; omega
 rw [e2,e3] at hs
 have hp0:val (xs.drop (i+k+1))=0:=by
  rcases Nat.eq_zero_or_pos (val (xs.drop (i+k+1))) with h | h
  ·exact h
  ·have:=Nat.mul_le_mul_left (4294967296 ^ k) h
   omega
 rw [hp0,Nat.mul_zero,Nat.add_zero] at hs
 have gx:=ox.get i
 have hl1:(xs.take i).length=i:=by simp; omega
 have hX:val xs=val (xs.take i)+4294967296 ^ i*val ((xs.drop i).take (k+1)):=by
  have h3:=qE xs i
  rw [hl1] at h3
  have h4:=qE (xs.drop i) (k+1)
  have e4:(xs.drop i).drop (k+1)=xs.drop (i+k+1):=by rw [List.drop_drop]; congr 1
  rw [e4,hp0,Nat.mul_zero,Nat.add_zero] at h4
  rw [h3,h4]
 refine ⟨by omega,fun seg hsl hsv => ⟨?_,?_⟩⟩
 ·rw [val_drop_set hi,List.append_assoc,uD,uD,hp0,Nat.mul_zero,Nat.add_zero,hl1,hsv]
  have hd:=Nat.div_add_mod (val ((xs.drop i).take (k+1))) Y
  rw [←h1,hX,Nat.pow_succ]
  generalize val ((xs.drop i).take (k+1))=S at hd ⊢
  generalize S / Y=q at hd ⊢
  generalize S % Y=r at hd ⊢
  generalize 4294967296 ^ i=p
  generalize val (out.drop (i+1))=o
  generalize val (xs.take i)=x0
  subst hd
  grind
 ·have e5:(xs.take i++seg++xs.drop (i+k+1)).drop i=seg++xs.drop (i+k+1):=by
   rw [List.append_assoc,List.drop_append]
   simp only [hl1]
   rw [List.drop_of_length_le (by omega),Nat.sub_self]
   rfl
  rw [e5,uD,hp0,Nat.mul_zero,Nat.add_zero,hsv]
  exact Nat.mod_lt _ hY
theorem parts_end {x o A B n:Nat} (hB:0<B) (h1:x+o*(B*2 ^ n)=A*2 ^ n) (h2:x<B*2 ^ n):o=A / B∧x=A % B*2 ^ n:=by
 have hp:0<2 ^ n:=Nat.pow_pos (by decide)
 generalize 2 ^ n=p at h1 h2 hp ⊢
 have e:o=A*p / (B*p):=by
  rw [←h1,Nat.add_mul_div_right _ _ (Nat.mul_pos hB hp),Nat.div_eq_of_lt h2,Nat.zero_add]
 rw [Nat.mul_div_mul_right _ _ hp] at e
 refine ⟨e,?_⟩
 have e2:x=A*p % (B*p):=by
  rw [←h1,Nat.add_mul_mod_self_right,Nat.mod_eq_of_lt h2]
 rw [e2,Nat.mul_mod_mul_right]
theorem shifted_len {b yo:List Nat} {n k:Nat} (nb:Norm b) (hb:b≠[]) (h1:2147483648≤at0 b (b.length - 1)*2 ^ n) (h2:at0 b (b.length - 1)*2 ^ n<4294967296) (oy:OkW yo) (hv:val yo=val b*2 ^ n) (hk:k≤yo.length) (ht:val (yo.take k)=val yo) (hz:k≠0→at0 yo (k - 1)≠0) :
  k=b.length∧2147483648*4294967296 ^ (b.length - 1)≤val (yo.take k)∧val (yo.take k)<4294967296 ^ k:=by
 have hl:0<b.length:=List.length_pos_iff.2 hb
 have e:=yE b (b.length - 1)
 rw [show b.length - 1+1=b.length by omega,xI (Nat.le_refl _)] at e
 have hlo:=vV (nb.1.take (b.length - 1))
 rw [show (b.take (b.length - 1)).length=b.length - 1 by simp] at hlo
 have e2:val (yo.take k)=val (b.take (b.length - 1))*2 ^ n+4294967296 ^ (b.length - 1)*(at0 b (b.length - 1)*2 ^ n):=by
  rw [ht,hv,e,Nat.add_mul,Nat.mul_assoc]
 have ge:4294967296 ^ (b.length - 1)*2147483648≤4294967296 ^ (b.length - 1)*(at0 b (b.length - 1)*2 ^ n):=Nat.mul_le_mul_left _ h1
 have lt:val (yo.take k)<4294967296 ^ b.length:=by
  have hp:0<2 ^ n:=Nat.pow_pos (by decide)
  have hd:at0 b (b.length - 1)*2 ^ n+2 ^ n≤4294967296:=by
   have hn:n≤32:=by
    rcases Nat.lt_or_ge 32 n with h | h
    ·have h4:2 ^ 33≤2 ^ n:=Nat.pow_le_pow_right (by decide) h
     have h5:1≤at0 b (b.length - 1):=by
      rcases Nat.eq_zero_or_pos (at0 b (b.length - 1)) with h6 | h6
      ·rw [h6] at h1
       omega
      ·exact h6
     have:=Nat.mul_le_mul h5 h4
     omega
    ·exact h
   have hB:4294967296=2 ^ (32 - n)*2 ^ n:=by rw [←Nat.pow_add,show 32 - n+n=32 by omega]
   have h3:at0 b (b.length - 1)<2 ^ (32 - n):=by
    rw [hB] at h2
    exact Nat.lt_of_mul_lt_mul_right h2
   have h4:=Nat.mul_le_mul_right (2 ^ n) h3
   rw [←hB,Nat.succ_mul] at h4
   exact h4
  have h3:val (b.take (b.length - 1))*2 ^ n<4294967296 ^ (b.length - 1)*2 ^ n:=Nat.mul_lt_mul_of_pos_right hlo hp
  have h5:=Nat.mul_le_mul_left (4294967296 ^ (b.length - 1)) hd
  rw [Nat.mul_add] at h5
  have h6:4294967296 ^ (b.length - 1+1)=4294967296 ^ (b.length - 1)*4294967296:=Nat.pow_succ ..
  rw [show b.length - 1+1=b.length by omega] at h6
  omega
 have hno:Norm (yo.take k):=⟨oy.take k,fun hne => by
  have h0:k≠0:=fun e => hne (by simp [e])
  have el:(yo.take k).length=k:=by simp; omega
  rw [el]
  have:at0 (yo.take k) (k - 1)=at0 yo (k - 1):=by
   unfold at0
   rw [List.getD_eq_getElem?_getD,List.getD_eq_getElem?_getD,List.getElem?_take_of_lt (by omega)]
  rw [this]
  exact hz h0⟩
 have el:(yo.take k).length=k:=by simp; omega
 have hk1:k≤b.length:=by
  have:=xY hno lt
  omega
 have hge:4294967296 ^ (b.length - 1)≤val (yo.take k):=by
  have h6:0<4294967296 ^ (b.length - 1):=Nat.pow_pos (by decide)
  omega
 have hk2:b.length - 1<k:=by
  have h7:=vV (oy.take k)
  rw [el] at h7
  exact (Nat.pow_lt_pow_iff_right (by decide)).1 (Nat.lt_of_le_of_lt hge h7)
 have ek:k=b.length:=by omega
 refine ⟨ek,?_,?_⟩
 ·rw [Nat.mul_comm]
  omega
 ·rw [ek]
  rw [ek] at lt
  exact lt
theorem parts_start {a xs:List Nat} {n k m Y:Nat} (oa:OkW a) (hn:n≤31) (hk:1≤k) (hm:m+k=a.length+1) (hl:xs.length=a.length+1) (hv:val xs=val a*2 ^ n) (hY:2147483648*4294967296 ^ (k - 1)≤Y):val (xs.drop m)<Y:=by
 have hs:=qE xs m
 rw [show (xs.take m).length=m by simp; omega,hv] at hs
 have ha:=vV oa
 have h31:2 ^ n≤2147483648:=pow31 hn
 have h1:val a*2 ^ n<4294967296 ^ a.length*2147483648:=Nat.lt_of_le_of_lt (Nat.mul_le_mul_left _ h31) (Nat.mul_lt_mul_of_pos_right ha (by decide))
 have e:4294967296 ^ a.length=4294967296 ^ m*4294967296 ^ (k - 1):=by rw [←Nat.pow_add,show m+(k - 1)=a.length by omega]
 rw [e,Nat.mul_assoc,Nat.mul_comm _ 2147483648] at h1
 have h2:=Nat.mul_le_mul_left (4294967296 ^ m) hY
 have h3:4294967296 ^ m*val (xs.drop m)<4294967296 ^ m*Y:=by omega
 exact Nat.lt_of_mul_lt_mul_left h3
theorem or_u32' {lo m s:Nat} (hs:s≤32) (hlo:lo<2 ^ s) (hm:m*2 ^ s<4294967296):arith .or .u32 (lo:Int) ((m*2 ^ s:Nat):Int)=((lo+m*2 ^ s:Nat):Int)∧lo+m*2 ^ s<4294967296:=by
 have h32:2 ^ s≤4294967296:=pow32 hs
 have hsum:lo+m*2 ^ s<4294967296:=by
  have e:lo+m*2 ^ s=(m <<< s) ||| lo:=by
   rw [←Nat.shiftLeft_add_eq_or_of_lt hlo,Nat.shiftLeft_eq]
   omega
  rw [e]
  exact Nat.or_lt_two_pow (n:=32) (by rw [Nat.shiftLeft_eq]; exact hm) (by omega)
 refine ⟨?_,hsum⟩
 generalize hp:m*2 ^ s=p at hm hsum
 have e:(BitVec.ofInt 32 (lo:Int) ||| BitVec.ofInt 32 (p:Int)).toNat=lo+p:=by
  rw [BitVec.toNat_or,BitVec.toNat_ofInt,BitVec.toNat_ofInt]
  have e1:((lo:Int) % ((2 ^ 32:Nat):Int)).toNat=lo:=by omega
  have e2:((p:Int) % ((2 ^ 32:Nat):Int)).toNat=p:=by omega
  rw [e1,e2,Nat.or_comm,←hp,←Nat.shiftLeft_eq,←Nat.shiftLeft_add_eq_or_of_lt hlo]
  omega
 show IntKind.u32.wrap ((BitVec.ofInt 32 (lo:Int) ||| BitVec.ofInt 32 (p:Int)).toNat:Int)=_
 rw [e,xH]
 omega
theorem back_word {x y n:Nat} (hn:n≤31) (hx:x<4294967296) (hy:y<4294967296):∃ m,y*2 ^ (32 - n) % 4294967296=m*2 ^ (32 - n)∧x / 2 ^ n<2 ^ (32 - n)∧y*2 ^ (32 - n)<18446744073709551616*2∧m*2 ^ (32 - n)<4294967296∧2 ^ n*(x / 2 ^ n+m*2 ^ (32 - n))+x % 2 ^ n=x+4294967296*(y % 2 ^ n):=by
 have hB:4294967296=2 ^ n*2 ^ (32 - n):=by rw [←Nat.pow_add,show n+(32 - n)=32 by omega]
 have hp:0<2 ^ n:=Nat.pow_pos (by decide)
 have hq:0<2 ^ (32 - n):=Nat.pow_pos (by decide)
 have h32:2 ^ (32 - n)≤4294967296:=pow32 (by omega)
 refine ⟨y % 2 ^ n,?_,?_,?_,?_,?_⟩
 ·rw [hB,Nat.mul_mod_mul_right]
 ·rw [Nat.div_lt_iff_lt_mul hp,Nat.mul_comm,←hB]
  exact hx
 ·have:=Nat.mul_le_mul (Nat.le_of_lt hy) h32
  omega
 ·have:=Nat.mul_lt_mul_of_pos_right (Nat.mod_lt y hp) hq
  rwa [←hB] at this
 ·have hd:=Nat.div_add_mod x (2 ^ n)
  have e:2 ^ n*(y % 2 ^ n*2 ^ (32 - n))=4294967296*(y % 2 ^ n):=by
   rw [hB]
   grind
  rw [Nat.mul_add,e]
  omega
theorem back_row {p q c v x y w:Nat} (h:q*c=v+p*(x % q)) (hw:q*w+x % q=x+4294967296*(y % q)):q*(c+p*w)=v+p*x+p*4294967296*(y % q):=by
 have e:q*(p*w)+p*(x % q)=p*x+p*4294967296*(y % q):=by
  have:=congrArg (p*·) hw
  grind
 rw [Nat.mul_add,h]
 omega
theorem back_start {t:List Nat} {n r:Nat} (hn:n≤32) (h:val t=r*2 ^ n):at0 t 0 % 2 ^ n=0:=by
 cases t with
 | nil => simp [at0]
 | cons x l =>
  have e:val (x :: l)=x+4294967296*val l:=rfl
  have hB:4294967296=2 ^ (32 - n)*2 ^ n:=by rw [←Nat.pow_add,show 32 - n+n=32 by omega]
  have e2:at0 (x :: l) 0=x:=by simp [at0]
  rw [e2]
  rw [e,hB] at h
  have e3:x+2 ^ (32 - n)*val l*2 ^ n=r*2 ^ n:=by rw [←h]; grind
  have:=congrArg (· % 2 ^ n) e3
  simp only [Nat.add_mul_mod_self_right,Nat.mul_mod_left] at this
  exact this
end Go.Proofs.YtokckcnfojjpjaaGreat

namespace Go.Proofs.YtokckcnfojjpjaaGreat
open Go.RowKit
set_option maxRecDepth 20000
def PartsK (A B:Nat) (u:V):Prop:=∃ c l d m,u=.tup [.c c,.c d]∧Wd c l∧Norm l∧val l=A / B∧Wd d m∧Norm m∧val m=A % B
theorem PartsK.fz {A B:Nat} {c d:C} {l m:List Nat} {H:Hp} (h1:Wd c l) (h2:Norm l) (h3:val l=A / B) (h4:Wd d m) (h5:Norm m) (h6:val m=A % B):∃ e,FzV H (.tup [.c c,.c d]) e∧PartsK A B e :=
 ⟨_,.tup (.cons (.c (.hf h1.hf)) (.cons (.c (.hf h4.hf)) .nil)),c,l,d,m,rfl,h1,h2,h3,h4,h5,h6⟩
theorem remN (a b:Nat):arith .rem .u64 (a:Int) (b:Int)=((a % b:Nat):Int):=by
 show (a:Int).tmod b=_
 exact (Int.ofNat_tmod a b).symm
theorem norm_of {l m:List Nat} (h:OkW l) (hp:m <+: l) (ht:m≠[]→at0 m (m.length - 1)≠0):Norm m:=⟨fun x hx => h x (hp.subset hx),ht⟩
theorem short_round {a out:List Nat} {j b rest:Nat} (oa:OkW a) (hb:0<b) (hbB:b<4294967296) (hr:rest<b) (hja:j<a.length) (hjo:j<out.length) (h:val (a.drop (j+1))=val (out.drop (j+1))*b+rest) :
  (rest*4294967296+at0 a j) / b<4294967296∧val (a.drop j)=val ((out.set j ((rest*4294967296+at0 a j) / b)).drop j)*b+(rest*4294967296+at0 a j) % b∧(rest*4294967296+at0 a j) % b<b:=by
 have ga:=oa.get j
 refine ⟨?_,?_,Nat.mod_lt _ hb⟩
 ·rw [Nat.div_lt_iff_lt_mul hb]
  have:=Nat.mul_le_mul_right 4294967296 hr
  rw [Nat.succ_mul,Nat.mul_comm b] at this
  omega
 ·rw [val_drop_set hjo,uJ hja]
  have hd:=Nat.div_add_mod (rest*4294967296+at0 a j) b
  show at0 a j+4294967296*val (a.drop (j+1))=_
  rw [h]
  generalize (rest*4294967296+at0 a j) / b=q at hd ⊢
  generalize (rest*4294967296+at0 a j) % b=r at hd ⊢
  generalize val (out.drop (j+1))=o
  grind
attribute [local irreducible] yA semH semC qLen qNil qIad qSlc qIdx yU yL yY appX appI slcX awpF yP xE xopF xL qval lval seqQ xD xW xT xP cnd arith IntKind.wrap
theorem ref01_parts_short {c d:C} {a:List Nat} {b:Nat} (hc:Wd c a) (hd:Wd d [b]) (na:Norm a) (nb:Norm [b]) (hl:a.length<1073741824) (hv:¬ val a<val [b]):semC Tryz.prog n_ref01_parts [.c c,.c d] (PartsK (val a) (val [b])):=by
 refine yD ok_ref01_parts rfl (show HFVs [.c c,.c d] from ⟨hc.hf,hd.hf,trivial⟩) ?_
 have hb0:b≠0:=by simpa [at0] using nb.2 (by simp)
 have hbB:b<4294967296:=nb.1 b (by simp)
 have hL:[b].length=1:=rfl
 have e0:val [b]=b:=by simp [val]
 rw [e0] at hv ⊢
 have la:1≤a.length:=by
  rcases Nat.eq_zero_or_pos a.length with h | h
  ·have:a=[]:=List.length_eq_zero_iff.1 h
   subst this
   simp [val] at hv
   omega
  ·exact h
 refine go ?_
 refine yB (bO hc hd na.1 nb.1 (by omega)) (fun u hu => ?_)
 obtain ⟨r,rfl,r1,r2,r3⟩:=hu
 refine go ?_
 cases hq:yA Cm.lss r 0
 ·simp [yA] at hq
  refine go ?_
  refine c_t (by simp [yA]) ?_
  refine go ?_
  refine wX (by rfl) (by rfl) ⟨by omega,by omega,by omega,by omega⟩ ?_
  rw [Int.toNat_natCast,zeros]
  refine go ?_
  rw [jN a.length (by omega) la]
  refine yR (fun n vs H => ∃ (j rest:Nat) (out:List Nat),vs=[.c c,.c d,.c (.sl 0 0 a.length (some a.length) 1),u64 rest,i64 ((j:Int) - 1)]∧H=[.live ⟨out.map W,yT,.rw⟩]∧n=j∧j≤a.length∧out.length=a.length∧OkW out∧rest<b∧val (a.drop j)=val (out.drop j)*b+rest) (by rfl) ⟨a.length,0,_,?_,rfl,rfl,Nat.le_refl _,by simp,fun x hx => by simp at hx; omega,by omega,by simp [val]⟩ ?_
  ·rw [show ((a.length - 1:Nat):Int)=(a.length:Int) - 1 by omega]
   rfl
  rintro n vs H ⟨j,rest,out,rfl,rfl,rfl,j1,j2,j3,j4,j5⟩
  refine go ?_
  cases hq2:yA Cm.geq ((n:Int) - 1) 0
  ·simp [yA] at hq2
   have ej:n=0:=by omega
   subst ej
   rw [List.drop_zero,List.drop_zero] at j5
   refine go ?_
   refine yV [0] (.cons (.c (wT out (by rfl) rfl (by simp) j2.symm (by rw [←j2]; exact List.take_of_length_le (by simp)))) .nil) (qQ (.imm out) (by omega)) (fun u hu => ?_)
   obtain ⟨c1,l1,rfl,w1,p1,v1,t1⟩:=hu
   refine go ?_
   rw [u32N,Nat.mod_eq_of_lt (by omega:rest<4294967296)]
   refine yV [1] (.cons (.c (wT [rest] (by rfl) rfl (by simp) rfl rfl)) .nil) (qQ (.imm [rest]) (by simp)) (fun u hu => ?_)
   obtain ⟨c2,l2,rfl,w2,p2,v2,t2⟩:=hu
   refine go ?_
   have hb1:0<b:=by omega
   refine PartsK.fz w1 (norm_of j3 p1 t1) ?_ w2 (norm_of (fun x hx => by simp at hx; omega) p2 t2) ?_
   ·rw [v1,j5,Nat.mul_comm,Nat.mul_add_div hb1,Nat.div_eq_of_lt j4,Nat.add_zero]
   ·rw [v2,j5,Nat.mul_comm,Nat.mul_add_mod,Nat.mod_eq_of_lt j4]
    simp [val]
  ·simp [yA] at hq2
   obtain ⟨i,rfl⟩:∃ i,n=i+1:=⟨n - 1,by omega⟩
   rw [show ((i+1:Nat):Int) - 1=(i:Int) by omega]
   have ga:=na.1.get i
   obtain ⟨s1,s2,s3⟩:=short_round (j:=i) na.1 (by omega) hbB j4 (by omega) (by omega) j5
   refine go ?_
   rw [Int.toNat_natCast,xQ _ (by omega:at0 a i<18446744073709551616),shl32N _ (by omega),pK (by omega) ga]
   refine go ?_
   rw [show at0 [b] (0:Int).toNat=b from rfl,xQ _ (by omega:b<18446744073709551616)]
   refine q_ar (by rfl) (by rfl) (by simp [needs]; omega) ?_
   rw [quoN _ _ (by omega)]
   refine go ?_
   rw [u32N,Nat.mod_eq_of_lt s1]
   refine yJ (by rfl) (by rfl) (by omega) (by omega) ?_
   refine go ?_
   refine wD (k:=i) (by rfl) (by rfl) (by omega) (by omega) ?_
   refine go ?_
   rw [show at0 [b] (0:Int).toNat=b from rfl,xQ _ (by omega:b<18446744073709551616)]
   refine q_ar (by rfl) (by rfl) (by simp [needs]; omega) ?_
   rw [remN]
   refine go ?_
   refine l_n (by rfl) (by omega) ⟨i,_,_,?_,rfl,rfl,by omega,by simp [j2],j3.set s1,s3,s2⟩
   rw [show arith .sub .i64 ((i:Nat):Int) 1=(i:Int) - 1 by rw [wY,yH (by omega) (by omega)]]
   rfl
 ·simp [yA] at hq
  exfalso
  apply hv
  rcases Nat.lt_trichotomy a.length [b].length with h | h | h
  ·omega
  ·have:=r3 h
   rw [this] at hq
   unfold sgn at hq
   split at hq
   ·rename_i h
    rw [e0] at h
    omega
   ·split at hq <;> omega
  ·have:=r2 h
   omega
end Go.Proofs.YtokckcnfojjpjaaGreat

namespace Go.Proofs.YtokckcnfojjpjaaGreat
open Go.RowKit
set_option maxRecDepth 20000
theorem at0_take {l:List Nat} {i k:Nat} (h:i<k):at0 (l.take k) i=at0 l i:=by
 unfold at0
 rw [List.getD_eq_getElem?_getD,List.getD_eq_getElem?_getD,List.getElem?_take_of_lt h]
theorem map_take {l:List Nat} {k:Nat}:(l.map W).take k=(l.take k).map W:=List.map_take.symm
theorem nn {n:Nat} (h:n≤31):IntKind.u64.wrap (n:Int)=(n:Int):=xQ _ (by omega)
theorem shr_back {x n:Nat} (hn:n≤31):((x:Nat):Int).fdiv (2 ^ (min ((n:Nat):Int).toNat IntKind.u32.bits))=((x / 2 ^ n:Nat):Int):=by
 rw [Int.toNat_natCast,show min n IntKind.u32.bits=n from Nat.min_eq_left (by show n≤32; omega),Int.fdiv_eq_ediv_of_nonneg _ (by exact_mod_cast Nat.zero_le (2 ^ n))]
 simp
theorem shl_back {y n m:Nat} (hn:n≤31) (hy:y<4294967296) (hm:y*2 ^ (32 - n) % 4294967296=m*2 ^ (32 - n)):IntKind.u32.wrap (IntKind.u64.wrap (((y:Nat):Int)*2 ^ (min (((32 - n:Nat):Nat):Int).toNat IntKind.u64.bits)))=((m*2 ^ (32 - n):Nat):Int):=by
 rw [Int.toNat_natCast,show min (32 - n) IntKind.u64.bits=32 - n from Nat.min_eq_left (by show 32 - n≤64; omega),show ((y:Nat):Int)*2 ^ (32 - n)=((y*2 ^ (32 - n):Nat):Int) by simp,←hm,xH,xN]
 generalize y*2 ^ (32 - n)=t
 omega
attribute [local irreducible] yA semH semC qLen qNil qIad qSlc qIdx yU yL yY appX appI slcX awpF yP xE xopF xL qval lval seqQ xD xW xT xP cnd arith IntKind.wrap
set_option maxHeartbeats 4000000 in
theorem ref01_parts_long {c d:C} {a b:List Nat} (hc:Wd c a) (hd:Wd d b) (na:Norm a) (nb:Norm b) (h2:2≤b.length) (hl:a.length<1073741824) (hv:¬ val a<val b):semC Tryz.prog n_ref01_parts [.c c,.c d] (PartsK (val a) (val b)):=by
 refine yD ok_ref01_parts rfl (show HFVs [.c c,.c d] from ⟨hc.hf,hd.hf,trivial⟩) ?_
 have hb0:b≠[]:=fun e => by rw [e] at h2; simp at h2
 have hab:b.length≤a.length:=by
  rcases Nat.lt_or_ge a.length b.length with h | h
  ·exact absurd (norm_lt na nb h) hv
  ·exact h
 have hvb:=val_pos nb hb0
 refine go ?_
 refine yB (bO hc hd na.1 nb.1 (by omega)) (fun u hu => ?_)
 obtain ⟨r,rfl,r1,r2,r3⟩:=hu
 have hr:0≤r:=by
  rcases Nat.lt_trichotomy a.length b.length with h | h | h
  ·omega
  ·rw [r3 h]
   unfold sgn
   split
   ·omega
   ·split <;> omega
  ·rw [r2 h]
   decide
 clear r1 r2 r3
 refine go ?_
 cases hq:yA Cm.lss r 0
 case true =>
  simp [yA] at hq
  omega
 simp [yA] at hq
 refine go ?_
 cases hq1:yA Cm.eql (b.length:Int) 1
 case true =>
  simp [yA] at hq1
  omega
 simp only [yA,yI] at hq1
 refine go ?_
 rw [jN b.length (by omega) (by omega)]
 refine go ?_
 rw [Int.toNat_natCast]
 have gtop:=nb.2 hb0
 have gb:=nb.1.get (b.length - 1)
 refine yB (gS gb (by omega)) (fun u hu => ?_)
 obtain ⟨n,rfl,n1,n2,n3⟩:=hu
 refine go ?_
 rw [nn n1]
 refine ref01_shifted hc na.1 n1 (by omega) _ (fun xs x1 x2 x3 => ?_)
 refine go ?_
 refine ref01_shifted hd nb.1 n1 (by omega) _ (fun yo y1 y2 y3 => ?_)
 refine go ?_
 rw [←y1]
 refine ref01_trim_box (out:=yo) (by rfl) (by omega) (fun k co' k1 k2 k3 => ?_)
 obtain ⟨s1,s2,s3⟩:=shifted_len nb hb0 n2 n3 y2 y3 k1 k2 k3
 have hst:val (xs.drop (a.length+1 - k))<val (yo.take k):=parts_start (k:=k) na.1 n1 (by omega) (by omega) x1 x3 (by rw [s1] at s2 ⊢; exact s2)
 have hY:val (yo.take k)=val b*2 ^ n:=k2.trans y3
 have hY0:0<val (yo.take k):=Nat.lt_of_le_of_lt (Nat.zero_le _) hst
 have lk:(yo.take k).length=k:=by simp; omega
 have oyk:=y2.take k
 have gt:=oyk.get (k - 1)
 have gn:=oyk.get (k - 2)
 have htop:1≤at0 (yo.take k) (k - 1):=by
  rw [at0_take (by omega)]
  have:=k3 (by omega)
  omega
 have hyo:yo.take k++yo.drop k=yo:=List.take_append_drop k yo
 generalize yo.drop k=yr at hyo
 generalize yo.take k=yl at s2 s3 hst hY hY0 lk oyk gt gn htop hyo
 subst hyo
 clear k2 k3 y2 y3 s2 y1 k1
 refine go ?_
 rw [subI (a.length+1) k (by omega) (by omega)]
 refine wX (by rfl) (by rfl) ⟨by omega,by omega,by omega,by omega⟩ ?_
 rw [Int.toNat_natCast,zeros]
 refine go ?_
 rw [jN k (by omega) (by omega)]
 refine yJ (by rfl) (by rfl) (by omega) (by omega) ?_
 refine go ?_
 refine ld_head (i:=k - 1) (by rfl) (by omega) (by omega) ?_
 refine go ?_
 rw [xQ _ (by omega:at0 yl (k - 1)<18446744073709551616),subI2 k (by omega) (by omega)]
 refine yJ (by rfl) (by rfl) (by omega) (by omega) ?_
 refine go ?_
 refine ld_head (i:=k - 2) (by rfl) (by omega) (by omega) ?_
 refine go ?_
 rw [xQ _ (by omega:at0 yl (k - 2)<18446744073709551616),jN (a.length+1 - k) (by omega) (by omega)]
 obtain ⟨m,hm⟩:∃ m,a.length+1 - k=m+1:=⟨a.length - k,by omega⟩
 rw [hm] at hst ⊢
 refine yR (fun z vs H => ∃ (j:Nat) (xc out:List Nat),vs=[u64 n,.c (.sl 0 0 (a.length+1) (some (a.length+1)) 1),.c (.sl 1 0 k co' 1),.c (.sl 2 0 (m+1) (some (m+1)) 1),u64 (at0 yl (k - 1)),u64 (at0 yl (k - 2)),i64 ((j:Int) - 1)]∧H=[.live ⟨xc.map W,yT,.rw⟩,.live ⟨(yl++yr).map W,yT,.rw⟩,.live ⟨out.map W,yT,.rw⟩]∧z=j∧j≤m+1∧xc.length=a.length+1∧OkW xc∧out.length=m+1∧OkW out∧val xc+4294967296 ^ j*val (out.drop j)*val yl=val a*2 ^ n∧val (xc.drop j)<val yl) (by rfl) ⟨m+1,xs,_,?_,rfl,rfl,Nat.le_refl _,x1,x2,by simp,fun x hx => by simp at hx; omega,?_,hst⟩ ?_
 ·rw [show ((m+1 - 1:Nat):Int)=((m+1:Nat):Int) - 1 by omega]
  rfl
 ·rw [List.drop_of_length_le (by simp),x3]
  simp [val]
 clear hst x3 x2 x1 xs
 rintro z vs H ⟨j,xc,out,rfl,rfl,rfl,j1,j2,j3,j4,j5,j6,j7⟩
 refine go ?_
 cases hq2:yA Cm.geq ((z:Int) - 1) 0
 case true =>
  simp [yA] at hq2
  obtain ⟨i,rfl⟩:∃ i,z=i+1:=⟨z - 1,by omega⟩
  rw [show ((i+1:Nat):Int) - 1=(i:Int) by omega]
  obtain ⟨q1,q2⟩:=parts_round (i:=i) (k:=k) (out:=out) j3 (by omega) hY0 s3 j6 j7 (by omega)
  have hpx:=parts_eq xc i k
  have lseg:((xc.drop i).take (k+1)).length=k+1:=by simp; omega
  have lpre:(xc.take i).length=i:=by simp; omega
  have oseg:=(j3.drop i).take (k+1)
  refine go ?_
  rw [addI i k (by omega),yZ (i+k) (by omega)]
  refine slc_sl (by rfl) (by rfl) (by rfl) (by omega) (by omega) (by omega) ?_
  refine go ?_
  rw [Int.toNat_natCast,Int.toNat_natCast,show i+k+1 - i=k+1 by omega]
  refine ref01_word (H:=[.live ⟨xc.map W,yT,.rw⟩,.live ⟨(yl++yr).map W,yT,.rw⟩,.live ⟨out.map W,yT,.rw⟩]) (pre:=xc.take i) (xs:=(xc.drop i).take (k+1)) (post:=xc.drop (i+k+1)) (yl:=yl) (by rw [hpx]; rfl) (by rfl) (by decide) (by omega) lk lseg (by omega) (by omega) oseg oyk htop q1 (fun seg g1 g2 g3 g4 => ?_)
  obtain ⟨q3,q4⟩:=q2 seg g1 g3
  refine go ?_
  refine yJ (by rfl) (by rfl) (by omega) (by omega) ?_
  refine go ?_
  refine wD (k:=i) (by rfl) (by rfl) (by omega) (by omega) ?_
  refine go ?_
  refine l_n (by rfl) (by omega) ⟨i,xc.take i++seg++xc.drop (i+k+1),_,?_,rfl,rfl,by omega,?_,?_,by simp [j4],j5.set g4,q3,q4⟩
  ·rw [show arith .sub .i64 ((i:Nat):Int) 1=(i:Int) - 1 by rw [wY,yH (by omega) (by omega)]]
   rfl
  ·simp
   omega
  ·intro x hx
   rw [List.append_assoc] at hx
   rcases List.mem_append.1 hx with h | h
   ·exact j3 x (List.mem_of_mem_take h)
   ·rcases List.mem_append.1 h with h | h
    ·exact g2 x h
    ·exact j3 x (List.mem_of_mem_drop h)
 simp [yA] at hq2
 have ej:z=0:=by omega
 subst ej
 rw [List.drop_zero] at j6 j7
 rw [Nat.pow_zero,Nat.one_mul] at j6
 rw [hY] at j6 j7
 obtain ⟨d1,d2⟩:=parts_end hvb j6 j7
 refine go ?_
 rw [←j2]
 refine ref01_trim_box (out:=xc) (by rfl) (by omega) (fun f co2 f1 f2 f3 => ?_)
 have lt:(xc.take f).length=f:=by simp; omega
 have ot:=j3.take f
 have ht0:at0 (xc.take f) 0 % 2 ^ n=0:=back_start (r:=val a % val b) (by omega) (f2.trans d2)
 rw [d2] at f2
 have hag:∀ w,w<f→at0 xc w=at0 (xc.take f) w:=fun w hw => (at0_take hw).symm
 generalize xc.take f=t at lt ot ht0 f2 hag
 refine go ?_
 refine yR (fun z vs H => ∃ (i:Nat) (x2:List Nat),vs=[u64 n,.c (.sl 2 0 (m+1) (some (m+1)) 1),.c (.sl 0 0 f co2 1),i64 i]∧H=[.live ⟨x2.map W,yT,.rw⟩,.live ⟨(yl++yr).map W,yT,.rw⟩,.live ⟨out.map W,yT,.rw⟩]∧z=f - i∧i≤f∧x2.length=xc.length∧OkW x2∧2 ^ n*val (x2.take i)=val (t.take i)+4294967296 ^ i*(at0 t i % 2 ^ n)∧∀ w,i≤w→w<f→at0 x2 w=at0 t w) (by rfl) ⟨0,xc,rfl,rfl,rfl,by omega,rfl,j3,by rw [ht0]; simp [val],fun w _ hw => hag w hw⟩ ?_
 rintro z vs H ⟨i,x2,rfl,rfl,rfl,v1,v2,v3,v4,v5⟩
 refine go ?_
 cases hq3:yA Cm.lss (i:Int) (f:Int)
 case true =>
  simp [yA] at hq3
  have gi:=ot.get i
  have gj:=ot.get (i+1)
  have ai:=v5 i (by omega) hq3
  obtain ⟨w,w1,w2,w3,w4,w5⟩:=back_word n1 gi gj
  obtain ⟨w6,w7⟩:=or_u32' (lo:=at0 t i / 2 ^ n) (m:=w) (s:=32 - n) (by omega) w2 w4
  refine go ?_
  refine yJ (by rfl) (by rfl) (by omega) (by omega) ?_
  refine go ?_
  refine wS (k:=i) (by rfl) (by omega) (by omega) ?_
  refine go ?_
  rw [shr_back n1,ai]
  refine yJ (by rfl) (by rfl) (by omega) (by omega) ?_
  refine go ?_
  refine wD (k:=i) (by rfl) (by rfl) (by omega) (by omega) ?_
  refine go ?_
  rw [yZ i (by omega)]
  cases hq4:yA Cm.lss ((i+1:Nat):Int) (f:Int)
  case true =>
   simp only [yA,yG] at hq4
   refine go ?_
   refine yJ (by rfl) (by rfl) (by omega) (by omega) ?_
   refine go ?_
   refine wS (k:=i) (by rfl) (by omega) (by simp; omega) ?_
   refine go ?_
   rw [yZ i (by omega)]
   refine yJ (by rfl) (by rfl) (by omega) (by omega) ?_
   refine go ?_
   refine wS (k:=i+1) (by rfl) (by omega) (by simp; omega) ?_
   refine go ?_
   have e1:at0 (x2.set i (at0 t i / 2 ^ n)) i=at0 t i / 2 ^ n:=by simp [at0,show i<x2.length by omega]
   have e2:at0 (x2.set i (at0 t i / 2 ^ n)) (i+1)=at0 t (i+1):=by rw [wA (by omega)]; exact v5 _ (by omega) (by omega)
   rw [e1,e2,xQ _ (by omega:at0 t (i+1)<18446744073709551616),show arith .sub .u64 32 (n:Int)=((32 - n:Nat):Int) from subN 32 n (by omega) (by omega)]
   refine go ?_
   rw [shl_back n1 gj w1,w6]
   refine yJ (by rfl) (by rfl) (by omega) (by omega) ?_
   refine go ?_
   refine wD (k:=i) (by rfl) (by rfl) (by omega) (by simp; omega) ?_
   rw [List.set_set]
   refine go ?_
   refine l_n (by rfl) (by omega) ⟨i+1,_,?_,rfl,rfl,by omega,by simp [v2],by rw [List.set_set]; exact v3.set w7,?_,fun z hz hz2 => ?_⟩
   ·rw [yZ i (by omega)]
    rfl
   ·rw [List.set_set,xF (by omega),yE,Nat.pow_succ]
    exact back_row v4 w5
   ·rw [List.set_set,wA (by omega)]
    exact v5 z (by omega) hz2
  simp only [yA,yI] at hq4
  have hz0:at0 t (i+1)=0:=jI (by omega)
  refine go ?_
  refine l_n (by rfl) (by omega) ⟨i+1,_,?_,rfl,rfl,by omega,by simp [v2],v3.set (by omega),?_,fun z hz hz2 => ?_⟩
  ·rw [yZ i (by omega)]
   rfl
  ·rw [xF (by omega),yE,Nat.pow_succ]
   exact back_row v4 (by rw [hz0,Nat.zero_mod,Nat.mul_zero,Nat.add_zero,Nat.div_add_mod])
  ·rw [wA (by omega)]
   exact v5 z (by omega) hz2
 simp [yA] at hq3
 have ei:i=f:=by omega
 subst ei
 rw [xI (l:=t) (by omega),jI (l:=t) (by omega),Nat.zero_mod,Nat.mul_zero,Nat.add_zero,f2,Nat.mul_comm] at v4
 have hfin:val (x2.take i)=val a % val b:=Nat.eq_of_mul_eq_mul_right (Nat.pow_pos (by decide)) v4
 refine go ?_
 refine yV [2] (.cons (.c (wT out (by rfl) rfl (by simp) j4.symm (by rw [←j4]; exact List.take_of_length_le (by simp)))) .nil) (qQ (.imm out) (by omega)) (fun u hu => ?_)
 obtain ⟨c1,l1,rfl,w1,p1,u1,t1⟩:=hu
 refine go ?_
 refine yV [0] (.cons (.c (wT (x2.take i) (by rfl) rfl (by simp) (by simp; omega) map_take)) .nil) (qQ (.imm (x2.take i)) (by simp; omega)) (fun u hu => ?_)
 obtain ⟨c2,l2,rfl,w2,p2,u2,t2⟩:=hu
 refine go ?_
 exact PartsK.fz w1 (norm_of j5 p1 t1) (u1.trans d1) w2 (norm_of (v3.take i) p2 t2) (u2.trans hfin)
end Go.Proofs.YtokckcnfojjpjaaGreat

namespace Go.Proofs.YtokckcnfojjpjaaGreat
open Go.RowKit
set_option maxRecDepth 20000
theorem red_uniq {a b n d:Int} (h1:Int.gcd a b=1) (h2:Int.gcd n d=1) (hb:0<b) (hd:0<d) (h:a*d=n*b):a=n∧b=d:=by
 have hn:=congrArg Int.natAbs h
 rw [Int.natAbs_mul,Int.natAbs_mul] at hn
 have c1:Nat.Coprime d.natAbs n.natAbs:=by rw [Nat.coprime_comm]; exact h2
 have c2:Nat.Coprime b.natAbs a.natAbs:=by rw [Nat.coprime_comm]; exact h1
 have e1:d.natAbs ∣ b.natAbs:=Nat.Coprime.dvd_of_dvd_mul_left c1 ⟨a.natAbs,by rw [←hn,Nat.mul_comm]⟩
 have e2:b.natAbs ∣ d.natAbs:=Nat.Coprime.dvd_of_dvd_mul_left c2 ⟨n.natAbs,by rw [hn,Nat.mul_comm]⟩
 have e3:=Nat.dvd_antisymm e1 e2
 have e4:b=d:=by omega
 subst e4
 exact ⟨Int.eq_of_mul_eq_mul_right (by omega) h,rfl⟩
theorem gcd_step {A B:Nat}:Nat.gcd B (A % B)=Nat.gcd A B:=by
 rw [Nat.gcd_comm A B,Nat.gcd_rec B A,Nat.gcd_comm]
theorem val_nil_iff {l:List Nat} (h:Norm l):l=[]↔val l=0:=by
 constructor
 ·intro e
  subst e
  rfl
 ·intro e
  rcases Decidable.em (l=[]) with h1 | h1
  ·exact h1
  ·have:=val_pos h h1
   omega
theorem gcd_amt {m:Bool} {x y:Nat}:Int.gcd (amt m x) (amt false y)=Nat.gcd x y:=by
 cases m <;> simp [amt,Int.gcd]
theorem red_div {m:Bool} {x y:Nat} (hy:0<y):Int.gcd (amt m (x / x.gcd y)) (amt false (y / x.gcd y))=1∧amt m (x / x.gcd y)*amt false y=amt m x*amt false (y / x.gcd y)∧0<y / x.gcd y∧x / x.gcd y≤x∧y / x.gcd y≤y:=by
 have hg:0<x.gcd y:=Nat.gcd_pos_of_pos_right _ hy
 refine ⟨?_,?_,Nat.div_pos (Nat.le_of_dvd hy (Nat.gcd_dvd_right x y)) hg,Nat.div_le_self _ _,Nat.div_le_self _ _⟩
 ·rw [gcd_amt]
  exact Nat.gcd_div_gcd_div_gcd_of_pos_right hy
 ·obtain ⟨a,ha⟩:=Nat.gcd_dvd_left x y
  obtain ⟨b,hb⟩:=Nat.gcd_dvd_right x y
  generalize x.gcd y=g at hg ha hb ⊢
  have e:x / g*y=x*(y / g):=by
   rw [ha,hb,Nat.mul_div_cancel_left _ hg,Nat.mul_div_cancel_left _ hg]
   grind
  have e':((x / g:Nat):Int)*(y:Int)=(x:Int)*((y / g:Nat):Int):=by exact_mod_cast e
  cases m
  ·exact e'
  ·simp only [amt,cond_true,cond_false,Int.neg_mul]
   rw [e']
def RedK (n d:Int) (u:V):Prop:=∃ cs a b,u=.agg cs∧IsRQ cs a b∧0<b∧Int.gcd a b=1∧a*d=n*b∧a.natAbs≤n.natAbs∧b.natAbs≤d.natAbs
theorem IsRQ.hf {cs:List C} {a b:Int} (h:IsRQ cs a b):HFL cs:=by
 cases h with
 | mk hn hd =>
  obtain ⟨c1,l1,m1,rfl,w1,o1,g1,e1⟩:=hn.two
  obtain ⟨c2,l2,m2,rfl,w2,o2,g2,e2⟩:=hd.two
  exact ⟨w1.hf,trivial,w2.hf,trivial,trivial⟩
theorem IsRQ.of {c1 c2:C} {m1 m2:Bool} {a b:Int} (hn:IsW [c1,.bool m1] a) (hd:IsW [c2,.bool m2] b) (hb:b≠0):IsRQ [c1,.bool m1,c2,.bool m2] a b:=by
 have:=IsRQ.mk hn hd
 rwa [if_neg hb] at this
theorem IsRQ.four {cs:List C} {a b:Int} (h:IsRQ cs a b):∃ c1 m1 c2 m2 d,cs=[c1,.bool m1,c2,.bool m2]∧IsW [c1,.bool m1] a∧IsW [c2,.bool m2] d∧b=if d=0 then 1 else d:=by
 cases h with
 | mk hn hd =>
  obtain ⟨c1,l1,m1,rfl,_⟩:=hn.two
  obtain ⟨c2,l2,m2,rfl,_⟩:=hd.two
  exact ⟨_,_,_,_,_,rfl,hn,hd,rfl⟩
theorem RedK.fz {n d a b:Int} {cs:List C} {H:Hp} (h:IsRQ cs a b) (h1:0<b) (h2:Int.gcd a b=1) (h3:a*d=n*b) (h4:a.natAbs≤n.natAbs) (h5:b.natAbs≤d.natAbs):∃ e,FzV H (.agg cs) e∧RedK n d e :=
 ⟨_,.agg (.hf h.hf),cs,a,b,rfl,h,h1,h2,h3,h4,h5⟩
attribute [local irreducible] yA semH semC qLen qNil qIad qSlc qIdx yU yL yY appX appI slcX awpF yP xE xopF xL qval lval seqQ xD xW xT xP cnd arith IntKind.wrap
theorem sD {P:Program} {e:Env} {H:Hp} {K:V→Hp→Prop} {agg:Bool} {size off:Nat} {a x:AO} {v:V} {cs l:List C} {el:TypeId} (h:a.ev e=some (.c (.ptr H.length off))) (h2:x.ev e=some v) (h3:pF agg v=some l) (h4:Nat.beq l.length size=true) (h5:off+size≤cs.length) (k:K (.tup []) (H++[.live ⟨splice cs off l,el,.rw⟩])):xopF P e (H++[.live ⟨cs,el,.rw⟩]) (.store agg size a x) K:=by
 refine jB h h2 (xA (yM _ _) h3 h4 h5 ?_)
 rw [qN]
 exact k
theorem vT {P:Program} {e:Env} {H:Hp} {K:V→Hp→Prop} {nid:Nat} {agg:Bool} {size off:Nat} {a x:AO} {v:V} {cs l:List C} {el:TypeId} (h:a.ev e=some (.c (.ptr H.length off))) (h2:x.ev e=some v) (h3:pF agg v=some l) (h4:Nat.beq l.length size=true) (h5:off+size≤cs.length) (k:K (.tup []) (H++[.live ⟨splice cs off l,el,.rw⟩])):xL P e (H++[.live ⟨cs,el,.rw⟩]) nid (.store agg size a x) K:=by
 refine uX h h2 (xA (yM _ _) h3 h4 h5 ?_)
 rw [qN]
 exact k
theorem go2 {A B:Prop} (k:B) (h:Held B→A:=by
 intro hgo
 repeat (first | (refine g_o ?_; first | (refine o_some ?_; try (first | (refine x_q (by rfl) ?_; try (first | refine q_mv (by rfl) ?_ | refine vF (by rfl) ?_ | (refine tR ?_; try (first | refine vQ (by rfl) (by assumption) ?_ | refine vR (by rfl) ?_ | refine wH (by rfl) ?_ | refine wG (by rfl) ?_)) | (refine tT ?_; try (first | refine vD (by rfl) (by rfl) (by assumption) (by omega) (by omega) ?_ | refine vO (by rfl) (by rfl) (by decide) (by decide) ?_ | refine yJ (by rfl) (by rfl) (by decide) (by decide) ?_ | refine vJ (by rfl) (by rfl) (by decide) (by decide) ?_)) | refine q_cm (by rfl) (by rfl) ?_ | refine q_ar (by rfl) (by rfl) (by rfl) ?_ | refine vY (by rfl) ?_ | (refine tX ?_; try (first | refine wU (by rfl) ?_ | refine wV (by rfl) ?_ | refine vS (by rfl) ?_)) | refine tW (by rfl) (by rfl) ?_ | refine vE (by rfl) ?_ | refine vG (by rfl) ?_ | refine tI (by rfl) (by rfl) (by first | decide | omega) ?_ | refine tN (by rfl) (by rfl) (by first | decide | omega) ?_ | refine tY (by rfl) (by rfl) ?_ | refine tZ (by rfl) (by rfl) (by rfl) ?_ | refine tP (by rfl) ?_ | refine tO (by rfl) ?_ | refine wK (by rfl) (by rfl) ?_ | refine wL (by rfl) (by rfl) ?_ | refine tM ?_ | refine tS ?_ | refine tV (by rfl) (by rfl) ?_ | refine vX (by rfl) (by rfl) ?_ | refine wO (by rfl) ?_ | refine q_mx (by rfl) (by rfl) ?_ | refine q_mn (by rfl) (by rfl) ?_ | refine tQ (by rfl) (by rfl) (by rfl) ?_ | refine tU (by rfl) ?_ | refine vZ (by rfl) ?_ | refine uA (by rfl) ?_ | refine wM (by rfl) ?_ | refine vH (by rfl) (by rfl) ?_ | refine vI (by rfl) (by rfl) ?_)) | (refine bX ?_; try (first | (refine sA (by rfl) ?_; try (first | refine yS (by rfl) (by rfl) ?_ | refine yO (by rfl) (by rfl) ?_ | refine yS (yM _ _) (by rfl) ?_ | refine yO (yM _ _) (by rfl) ?_)) | (refine sB (by rfl) ?_; try (first | refine uR (by omega) (by omega) ?_ | refine wE (Nat.le_of_ble_eq_true (by rfl)) ?_)))) | refine sD (by rfl) (by rfl) (by rfl) (by rfl) (Nat.le_of_ble_eq_true (by rfl)) ?_ | (refine jB (by rfl) (by rfl) ?_; try (first | refine xA (by rfl) (by rfl) (by rfl) (Nat.le_of_ble_eq_true (by rfl)) ?_)) | refine gL (by rfl) (by rfl) ?_ | refine x_box (by rfl) (by rfl) ?_ | refine gA ?_ | refine gX (by rfl) ?_ | refine x_app ?_ | refine bW ?_ | refine hU ?_ | refine hZ (by rfl) (by rfl) (by rfl) (by rfl) ?_ | refine pJ (by rfl) (by rfl) (by rfl) ?_)) | (refine o_nil ?_; try (first | refine s_n ?_ | refine s_r ?_ | refine s_e ?_ | refine k_n ?_ | refine k_r ?_ | refine k_e (by rfl) ?_ | refine k_o (by rfl) ?_ | refine l_r ?_ | refine l_e ?_ | refine b_r ?_ | refine b_n ?_)) | refine o_guard (by rfl) ?_ | refine o_guardT (by rfl) ?_ | refine o_none ?_ | refine o_guardN (by rfl) ?_) | (refine g_f ?_; first | refine f_seq ?_ | refine f_reg ?_ | (refine f_cond (by rfl) ?_; try (first | refine c_t (by rfl) ?_ | refine c_f (by rfl) ?_)) | refine f_block ?_ | refine f_skip ?_ | refine f_ret ?_ | refine f_exit ?_ | refine f_regD0 ?_ | refine f_regD ?_) | (refine g_s ?_; first | refine s_n ?_ | refine s_r ?_ | refine s_e ?_) | (refine g_d ?_; first | (refine gQ (T:=none) (by rfl) (by rfl) ?_; try (first | (refine xd_q (by rfl) ?_; try (first | refine q_mv (by rfl) ?_ | refine vF (by rfl) ?_ | (refine tR ?_; try (first | refine vQ (by rfl) (by assumption) ?_ | refine vR (by rfl) ?_ | refine wH (by rfl) ?_ | refine wG (by rfl) ?_)) | (refine tT ?_; try (first | refine vD (by rfl) (by rfl) (by assumption) (by omega) (by omega) ?_ | refine vO (by rfl) (by rfl) (by decide) (by decide) ?_ | refine yJ (by rfl) (by rfl) (by decide) (by decide) ?_ | refine vJ (by rfl) (by rfl) (by decide) (by decide) ?_)) | refine q_cm (by rfl) (by rfl) ?_ | refine q_ar (by rfl) (by rfl) (by rfl) ?_ | refine vY (by rfl) ?_ | (refine tX ?_; try (first | refine wU (by rfl) ?_ | refine wV (by rfl) ?_ | refine vS (by rfl) ?_)) | refine tW (by rfl) (by rfl) ?_ | refine vE (by rfl) ?_ | refine vG (by rfl) ?_ | refine tI (by rfl) (by rfl) (by first | decide | omega) ?_ | refine tN (by rfl) (by rfl) (by first | decide | omega) ?_ | refine tY (by rfl) (by rfl) ?_ | refine tZ (by rfl) (by rfl) (by rfl) ?_ | refine tP (by rfl) ?_ | refine tO (by rfl) ?_ | refine wK (by rfl) (by rfl) ?_ | refine wL (by rfl) (by rfl) ?_ | refine tM ?_ | refine tS ?_ | refine tV (by rfl) (by rfl) ?_ | refine vX (by rfl) (by rfl) ?_ | refine wO (by rfl) ?_ | refine q_mx (by rfl) (by rfl) ?_ | refine q_mn (by rfl) (by rfl) ?_ | refine tQ (by rfl) (by rfl) (by rfl) ?_ | refine tU (by rfl) ?_ | refine vZ (by rfl) ?_ | refine uA (by rfl) ?_ | refine wM (by rfl) ?_ | refine vH (by rfl) (by rfl) ?_ | refine vI (by rfl) (by rfl) ?_)) | (refine sT ?_; try (first | (refine sA (by rfl) ?_; try (first | refine yS (by rfl) (by rfl) ?_ | refine yO (by rfl) (by rfl) ?_ | refine yS (yM _ _) (by rfl) ?_ | refine yO (yM _ _) (by rfl) ?_)) | (refine sB (by rfl) ?_; try (first | refine uR (by omega) (by omega) ?_ | refine wE (Nat.le_of_ble_eq_true (by rfl)) ?_)))) | refine vT (by rfl) (by rfl) (by rfl) (by rfl) (Nat.le_of_ble_eq_true (by rfl)) ?_ | (refine uX (by rfl) (by rfl) ?_; try (first | refine xA (by rfl) (by rfl) (by rfl) (Nat.le_of_ble_eq_true (by rfl)) ?_)) | refine sU (by rfl) (by rfl) ?_ | refine pP (by rfl) (by rfl) (by rfl) ?_ | refine uY (by rfl) ?_ | refine sV (by rfl) (by rfl) ?_)) | (refine gQ (by rfl) (by rfl) ?_; try (first | (refine xd_q (by rfl) ?_; try (first | refine q_mv (by rfl) ?_ | refine vF (by rfl) ?_ | (refine tR ?_; try (first | refine vQ (by rfl) (by assumption) ?_ | refine vR (by rfl) ?_ | refine wH (by rfl) ?_ | refine wG (by rfl) ?_)) | (refine tT ?_; try (first | refine vD (by rfl) (by rfl) (by assumption) (by omega) (by omega) ?_ | refine vO (by rfl) (by rfl) (by decide) (by decide) ?_ | refine yJ (by rfl) (by rfl) (by decide) (by decide) ?_ | refine vJ (by rfl) (by rfl) (by decide) (by decide) ?_)) | refine q_cm (by rfl) (by rfl) ?_ | refine q_ar (by rfl) (by rfl) (by rfl) ?_ | refine vY (by rfl) ?_ | (refine tX ?_; try (first | refine wU (by rfl) ?_ | refine wV (by rfl) ?_ | refine vS (by rfl) ?_)) | refine tW (by rfl) (by rfl) ?_ | refine vE (by rfl) ?_ | refine vG (by rfl) ?_ | refine tI (by rfl) (by rfl) (by first | decide | omega) ?_ | refine tN (by rfl) (by rfl) (by first | decide | omega) ?_ | refine tY (by rfl) (by rfl) ?_ | refine tZ (by rfl) (by rfl) (by rfl) ?_ | refine tP (by rfl) ?_ | refine tO (by rfl) ?_ | refine wK (by rfl) (by rfl) ?_ | refine wL (by rfl) (by rfl) ?_ | refine tM ?_ | refine tS ?_ | refine tV (by rfl) (by rfl) ?_ | refine vX (by rfl) (by rfl) ?_ | refine wO (by rfl) ?_ | refine q_mx (by rfl) (by rfl) ?_ | refine q_mn (by rfl) (by rfl) ?_ | refine tQ (by rfl) (by rfl) (by rfl) ?_ | refine tU (by rfl) ?_ | refine vZ (by rfl) ?_ | refine uA (by rfl) ?_ | refine wM (by rfl) ?_ | refine vH (by rfl) (by rfl) ?_ | refine vI (by rfl) (by rfl) ?_)) | (refine sT ?_; try (first | (refine sA (by rfl) ?_; try (first | refine yS (by rfl) (by rfl) ?_ | refine yO (by rfl) (by rfl) ?_ | refine yS (yM _ _) (by rfl) ?_ | refine yO (yM _ _) (by rfl) ?_)) | (refine sB (by rfl) ?_; try (first | refine uR (by omega) (by omega) ?_ | refine wE (Nat.le_of_ble_eq_true (by rfl)) ?_)))) | refine vT (by rfl) (by rfl) (by rfl) (by rfl) (Nat.le_of_ble_eq_true (by rfl)) ?_ | (refine uX (by rfl) (by rfl) ?_; try (first | refine xA (by rfl) (by rfl) (by rfl) (Nat.le_of_ble_eq_true (by rfl)) ?_)) | refine sU (by rfl) (by rfl) ?_ | refine pP (by rfl) (by rfl) (by rfl) ?_ | refine uY (by rfl) ?_ | refine sV (by rfl) (by rfl) ?_)) | (refine d_nil ?_; try (first | refine s_n ?_ | refine s_r ?_ | refine s_e ?_ | refine k_n ?_ | refine k_r ?_ | refine k_e (by rfl) ?_ | refine k_o (by rfl) ?_ | refine l_r ?_ | refine l_e ?_ | refine b_r ?_ | refine b_n ?_)) | refine d_none (by rfl) (by rfl) ?_ | refine d_guard (by rfl) (by rfl) (by rfl) ?_) | (refine g_x ?_; first | (refine x_q (by rfl) ?_; try (first | refine q_mv (by rfl) ?_ | refine vF (by rfl) ?_ | (refine tR ?_; try (first | refine vQ (by rfl) (by assumption) ?_ | refine vR (by rfl) ?_ | refine wH (by rfl) ?_ | refine wG (by rfl) ?_)) | (refine tT ?_; try (first | refine vD (by rfl) (by rfl) (by assumption) (by omega) (by omega) ?_ | refine vO (by rfl) (by rfl) (by decide) (by decide) ?_ | refine yJ (by rfl) (by rfl) (by decide) (by decide) ?_ | refine vJ (by rfl) (by rfl) (by decide) (by decide) ?_)) | refine q_cm (by rfl) (by rfl) ?_ | refine q_ar (by rfl) (by rfl) (by rfl) ?_ | refine vY (by rfl) ?_ | (refine tX ?_; try (first | refine wU (by rfl) ?_ | refine wV (by rfl) ?_ | refine vS (by rfl) ?_)) | refine tW (by rfl) (by rfl) ?_ | refine vE (by rfl) ?_ | refine vG (by rfl) ?_ | refine tI (by rfl) (by rfl) (by first | decide | omega) ?_ | refine tN (by rfl) (by rfl) (by first | decide | omega) ?_ | refine tY (by rfl) (by rfl) ?_ | refine tZ (by rfl) (by rfl) (by rfl) ?_ | refine tP (by rfl) ?_ | refine tO (by rfl) ?_ | refine wK (by rfl) (by rfl) ?_ | refine wL (by rfl) (by rfl) ?_ | refine tM ?_ | refine tS ?_ | refine tV (by rfl) (by rfl) ?_ | refine vX (by rfl) (by rfl) ?_ | refine wO (by rfl) ?_ | refine q_mx (by rfl) (by rfl) ?_ | refine q_mn (by rfl) (by rfl) ?_ | refine tQ (by rfl) (by rfl) (by rfl) ?_ | refine tU (by rfl) ?_ | refine vZ (by rfl) ?_ | refine uA (by rfl) ?_ | refine wM (by rfl) ?_ | refine vH (by rfl) (by rfl) ?_ | refine vI (by rfl) (by rfl) ?_)) | (refine bX ?_; try (first | (refine sA (by rfl) ?_; try (first | refine yS (by rfl) (by rfl) ?_ | refine yO (by rfl) (by rfl) ?_ | refine yS (yM _ _) (by rfl) ?_ | refine yO (yM _ _) (by rfl) ?_)) | (refine sB (by rfl) ?_; try (first | refine uR (by omega) (by omega) ?_ | refine wE (Nat.le_of_ble_eq_true (by rfl)) ?_)))) | refine sD (by rfl) (by rfl) (by rfl) (by rfl) (Nat.le_of_ble_eq_true (by rfl)) ?_ | (refine jB (by rfl) (by rfl) ?_; try (first | refine xA (by rfl) (by rfl) (by rfl) (Nat.le_of_ble_eq_true (by rfl)) ?_)) | refine gL (by rfl) (by rfl) ?_ | refine x_box (by rfl) (by rfl) ?_ | refine gA ?_ | refine gX (by rfl) ?_ | refine x_app ?_ | refine bW ?_ | refine hU ?_ | refine hZ (by rfl) (by rfl) (by rfl) (by rfl) ?_ | refine pJ (by rfl) (by rfl) (by rfl) ?_) | (refine g_q ?_; first | refine q_mv (by rfl) ?_ | refine vF (by rfl) ?_ | (refine tR ?_; try (first | refine vQ (by rfl) (by assumption) ?_ | refine vR (by rfl) ?_ | refine wH (by rfl) ?_ | refine wG (by rfl) ?_)) | (refine tT ?_; try (first | refine vD (by rfl) (by rfl) (by assumption) (by omega) (by omega) ?_ | refine vO (by rfl) (by rfl) (by decide) (by decide) ?_ | refine yJ (by rfl) (by rfl) (by decide) (by decide) ?_ | refine vJ (by rfl) (by rfl) (by decide) (by decide) ?_)) | refine q_cm (by rfl) (by rfl) ?_ | refine q_ar (by rfl) (by rfl) (by rfl) ?_ | refine vY (by rfl) ?_ | (refine tX ?_; try (first | refine wU (by rfl) ?_ | refine wV (by rfl) ?_ | refine vS (by rfl) ?_)) | refine tW (by rfl) (by rfl) ?_ | refine vE (by rfl) ?_ | refine vG (by rfl) ?_ | refine tI (by rfl) (by rfl) (by first | decide | omega) ?_ | refine tN (by rfl) (by rfl) (by first | decide | omega) ?_ | refine tY (by rfl) (by rfl) ?_ | refine tZ (by rfl) (by rfl) (by rfl) ?_ | refine tP (by rfl) ?_ | refine tO (by rfl) ?_ | refine wK (by rfl) (by rfl) ?_ | refine wL (by rfl) (by rfl) ?_ | refine tM ?_ | refine tS ?_ | refine tV (by rfl) (by rfl) ?_ | refine vX (by rfl) (by rfl) ?_ | refine wO (by rfl) ?_ | refine q_mx (by rfl) (by rfl) ?_ | refine q_mn (by rfl) (by rfl) ?_ | refine tQ (by rfl) (by rfl) (by rfl) ?_ | refine tU (by rfl) ?_ | refine vZ (by rfl) ?_ | refine uA (by rfl) ?_ | refine wM (by rfl) ?_ | refine vH (by rfl) (by rfl) ?_ | refine vI (by rfl) (by rfl) ?_) | (refine g_c ?_; first | refine c_t (by rfl) ?_ | refine c_f (by rfl) ?_) | (refine g_k ?_; first | refine k_n ?_ | refine k_r ?_ | refine k_e (by rfl) ?_ | refine k_o (by rfl) ?_) | (refine g_lo ?_; first | refine l_r ?_ | refine l_e ?_) | (refine g_xd ?_; first | (refine xd_q (by rfl) ?_; try (first | refine q_mv (by rfl) ?_ | refine vF (by rfl) ?_ | (refine tR ?_; try (first | refine vQ (by rfl) (by assumption) ?_ | refine vR (by rfl) ?_ | refine wH (by rfl) ?_ | refine wG (by rfl) ?_)) | (refine tT ?_; try (first | refine vD (by rfl) (by rfl) (by assumption) (by omega) (by omega) ?_ | refine vO (by rfl) (by rfl) (by decide) (by decide) ?_ | refine yJ (by rfl) (by rfl) (by decide) (by decide) ?_ | refine vJ (by rfl) (by rfl) (by decide) (by decide) ?_)) | refine q_cm (by rfl) (by rfl) ?_ | refine q_ar (by rfl) (by rfl) (by rfl) ?_ | refine vY (by rfl) ?_ | (refine tX ?_; try (first | refine wU (by rfl) ?_ | refine wV (by rfl) ?_ | refine vS (by rfl) ?_)) | refine tW (by rfl) (by rfl) ?_ | refine vE (by rfl) ?_ | refine vG (by rfl) ?_ | refine tI (by rfl) (by rfl) (by first | decide | omega) ?_ | refine tN (by rfl) (by rfl) (by first | decide | omega) ?_ | refine tY (by rfl) (by rfl) ?_ | refine tZ (by rfl) (by rfl) (by rfl) ?_ | refine tP (by rfl) ?_ | refine tO (by rfl) ?_ | refine wK (by rfl) (by rfl) ?_ | refine wL (by rfl) (by rfl) ?_ | refine tM ?_ | refine tS ?_ | refine tV (by rfl) (by rfl) ?_ | refine vX (by rfl) (by rfl) ?_ | refine wO (by rfl) ?_ | refine q_mx (by rfl) (by rfl) ?_ | refine q_mn (by rfl) (by rfl) ?_ | refine tQ (by rfl) (by rfl) (by rfl) ?_ | refine tU (by rfl) ?_ | refine vZ (by rfl) ?_ | refine uA (by rfl) ?_ | refine wM (by rfl) ?_ | refine vH (by rfl) (by rfl) ?_ | refine vI (by rfl) (by rfl) ?_)) | (refine sT ?_; try (first | (refine sA (by rfl) ?_; try (first | refine yS (by rfl) (by rfl) ?_ | refine yO (by rfl) (by rfl) ?_ | refine yS (yM _ _) (by rfl) ?_ | refine yO (yM _ _) (by rfl) ?_)) | (refine sB (by rfl) ?_; try (first | refine uR (by omega) (by omega) ?_ | refine wE (Nat.le_of_ble_eq_true (by rfl)) ?_)))) | refine vT (by rfl) (by rfl) (by rfl) (by rfl) (Nat.le_of_ble_eq_true (by rfl)) ?_ | (refine uX (by rfl) (by rfl) ?_; try (first | refine xA (by rfl) (by rfl) (by rfl) (Nat.le_of_ble_eq_true (by rfl)) ?_)) | refine sU (by rfl) (by rfl) ?_ | refine pP (by rfl) (by rfl) (by rfl) ?_ | refine uY (by rfl) ?_ | refine sV (by rfl) (by rfl) ?_) | (refine g_l ?_; first | (refine sA (by rfl) ?_; try (first | refine yS (by rfl) (by rfl) ?_ | refine yO (by rfl) (by rfl) ?_ | refine yS (yM _ _) (by rfl) ?_ | refine yO (yM _ _) (by rfl) ?_)) | (refine sB (by rfl) ?_; try (first | refine uR (by omega) (by omega) ?_ | refine wE (Nat.le_of_ble_eq_true (by rfl)) ?_))) | (refine g_len ?_; first | refine vQ (by rfl) (by assumption) ?_ | refine vR (by rfl) ?_ | refine wH (by rfl) ?_ | refine wG (by rfl) ?_) | (refine g_nil ?_; first | refine wU (by rfl) ?_ | refine wV (by rfl) ?_ | refine vS (by rfl) ?_) | (refine g_iad ?_; first | refine vD (by rfl) (by rfl) (by assumption) (by omega) (by omega) ?_ | refine vO (by rfl) (by rfl) (by decide) (by decide) ?_ | refine yJ (by rfl) (by rfl) (by decide) (by decide) ?_ | refine vJ (by rfl) (by rfl) (by decide) (by decide) ?_) | (refine g_box ?_; first | refine yS (by rfl) (by rfl) ?_ | refine yO (by rfl) (by rfl) ?_ | refine yS (yM _ _) (by rfl) ?_ | refine yO (yM _ _) (by rfl) ?_) | (refine g_cells ?_; first | refine uR (by omega) (by omega) ?_ | refine wE (Nat.le_of_ble_eq_true (by rfl)) ?_) | (refine g_st ?_; first | refine xA (by rfl) (by rfl) (by rfl) (Nat.le_of_ble_eq_true (by rfl)) ?_) | (refine g_b ?_; first | refine b_r ?_ | refine b_n ?_) | (refine g_r ?_; first | refine r_tmp (by rfl) ?_ | refine r_cell ?_ | refine r_nil ?_))
 exact hgo.out):A:=h ⟨k⟩
theorem sE {c d:C} {a b:List Nat} (hc:Wd c a) (hd:Wd d b) (na:Norm a) (nb:Norm b) (hb0:b≠[]) (hl:a.length<1073741824):semC Tryz.prog n_ref01_parts [.c c,.c d] (PartsK (val a) (val b)):=by
 rcases Nat.lt_or_ge (val a) (val b) with hv | hv
 ·refine yD ok_ref01_parts rfl (show HFVs [.c c,.c d] from ⟨hc.hf,hd.hf,trivial⟩) ?_
  refine go ?_
  refine yB (bO hc hd na.1 nb.1 (by omega)) (fun u hu => ?_)
  obtain ⟨r,rfl,r1,r2,r3⟩:=hu
  have hr:r<0:=by
   rcases Nat.lt_trichotomy a.length b.length with h | h | h
   ·rw [r1 h]
    decide
   ·rw [r3 h]
    unfold sgn
    split
    ·omega
    ·omega
   ·have:=norm_lt nb na h
    omega
  refine go ?_
  cases hq:yA Cm.lss r 0
  ·simp [yA] at hq
   omega
  ·refine go ?_
   exact PartsK.fz .nil .nil (by rw [Nat.div_eq_of_lt hv]; rfl) hc na (by rw [Nat.mod_eq_of_lt hv])
 ·rcases Nat.lt_or_ge b.length 2 with h | h
  ·have hl1:0<b.length:=List.length_pos_iff.2 hb0
   match b,h,hl1 with
   | [x],_,_ => exact ref01_parts_short hc hd na nb hl (by omega)
  ·exact ref01_parts_long hc hd na nb h hl (by omega)
def GcdK (A B:Nat) (u:V):Prop:=∃ c l,u=.c c∧Wd c l∧Norm l∧val l=Nat.gcd A B
theorem ref01_divisor {c d:C} {a b:List Nat} (hc:Wd c a) (hd:Wd d b) (na:Norm a) (nb:Norm b) (hl:a.length<1073741824) (hl':b.length<1073741824):semC Tryz.prog n_ref01_divisor [.c c,.c d] (GcdK (val a) (val b)):=by
 refine yD ok_ref01_divisor rfl (show HFVs [.c c,.c d] from ⟨hc.hf,hd.hf,trivial⟩) ?_
 refine go ?_
 refine yR (fun n vs H => ∃ c' d' x y,vs=[.c c',.c d']∧H=[]∧n=val y∧Wd c' x∧Wd d' y∧Norm x∧Norm y∧x.length<1073741824∧y.length<1073741824∧Nat.gcd (val x) (val y)=Nat.gcd (val a) (val b)) (by rfl) ⟨c,d,a,b,rfl,rfl,rfl,hc,hd,na,nb,hl,hl',rfl⟩ ?_
 rintro n vs H ⟨c',d',x,y,rfl,rfl,rfl,hc',hd',nx,ny,lx,ly,hg⟩
 refine go ?_
 cases hq:yA Cm.gtr (y.length:Int) 0
 ·simp [yA] at hq
  subst hq
  refine go ?_
  exact ⟨_,.c (.hf hc'.hf),c',x,rfl,hc',nx,by rw [←hg]; simp [val]⟩
 ·simp only [yA,yG] at hq
  have hy:y≠[]:=fun e => by rw [e] at hq; simp at hq
  refine go ?_
  refine yB (sE hc' hd' nx ny hy lx) (fun u hu => ?_)
  obtain ⟨c1,l1,d1,m1,rfl,w1,o1,v1,w2,o2,v2⟩:=hu
  refine go ?_
  have hp:=val_pos ny hy
  have hlt:val m1<val y:=by rw [v2]; exact Nat.mod_lt _ hp
  refine l_n (by rfl) hlt ⟨_,_,y,m1,rfl,rfl,rfl,hd',w2,ny,o2,ly,?_,?_⟩
  ·have:=xY (n:=y.length) o2 (Nat.lt_trans hlt (vV ny.1))
   omega
  ·rw [v2,gcd_step,hg]
set_option maxHeartbeats 1000000 in
theorem qR {cs ds:List C} {n d:Int} {k:Nat} (hn:IsW cs n) (hd:IsW ds d) (sn:Sz k n) (sd:Sz k d) (hk:k<1073741824) (h0:d≠0):semC Tryz.prog n_ref01_ratio [.agg cs,.agg ds] (RedK n d):=by
 refine yD ok_ref01_ratio rfl (show HFVs [.agg cs,.agg ds] from ⟨hn.hf,hd.hf,trivial⟩) ?_
 unfold Sz at sn sd
 obtain ⟨c1,l1,m1,rfl,w1,o1,g1,e1⟩:=hn.two
 obtain ⟨c2,l2,m2,rfl,w2,o2,g2,e2⟩:=hd.two
 refine go2 ?_
 refine yB (qP hd) (fun u hu => ?_)
 obtain ⟨z,rfl,hz⟩:=hu
 cases z
 case true => exact absurd (hz.1 rfl) h0
 refine go2 ?_
 cases m2
 case false =>
  have hp:0<d:=by
   have:=val_nil_iff o2
   rcases Nat.eq_zero_or_pos (val l2) with h | h
   ·rw [h] at e2
    exact absurd e2 h0
   ·rw [e2]
    simp only [amt,cond_false]
    omega
  have rel:∀ a b:Int,a*d=n*b→a*d=n*b:=fun _ _ h => h
  have en:n.natAbs=n.natAbs:=rfl
  have ed:d.natAbs=d.natAbs:=rfl
  have hn1:=hn
  have hd1:=hd
  refine go2 ?_
  have a1:l1.length≤k:=xY o1 (by rw [←en,e1,xS] at sn; exact sn)
  have a2:l2.length≤k:=xY o2 (by rw [←ed,e2,xS] at sd; exact sd)
  refine yB (pV hd1) (fun u hu => ?_)
  obtain ⟨z,rfl,hz1⟩:=hu
  cases z
  case true =>
   refine go2 ?_
   have h1:=hz1.1 rfl
   refine RedK.fz (.of hn1 hd1 (by omega)) hp ?_ (rel _ _ rfl) (by omega) (by omega)
   rw [h1]
   simp
  refine go2 ?_
  refine yB (ref01_divisor w1 w2 o1 o2 (by omega) (by omega)) (fun u hu => ?_)
  obtain ⟨cg,lg,rfl,wg,og,vg⟩:=hu
  have y0:0<val l2:=by
   rw [e2] at hp
   simp only [amt,cond_false] at hp
   omega
  have g0:0<val lg:=by
   rw [vg]
   exact Nat.gcd_pos_of_pos_right _ y0
  have gn:lg≠[]:=fun e => by
   rw [e] at g0
   exact absurd g0 (by decide)
  have lg0:0<lg.length:=List.length_pos_iff.2 gn
  refine go2 ?_
  cases hq:yA Cm.neq (lg.length:Int) 1
  case false =>
   simp only [yA,yI] at hq
   have lg1:lg.length=1:=by omega
   refine go2 ?_
   cases hq2:yA Cm.neq ((at0 lg (0:Int).toNat:Nat):Int) 1
   case false =>
    simp only [yA,yI] at hq2
    have hg1:val lg=1:=by
     rw [len_one lg1]
     have:at0 lg (0:Int).toNat=at0 lg 0:=rfl
     omega
    refine go2 ?_
    refine RedK.fz (.of hn1 hd1 (by omega)) hp ?_ (rel _ _ rfl) (by omega) (by omega)
    rw [e1,e2,←hg1,vg]
    exact gcd_amt
   case true =>
    refine go2 ?_
    refine yB (sE w1 wg o1 og gn (by omega)) (fun u hu => ?_)
    obtain ⟨ca,la,cb,lb,rfl,wa,oa,va,wb,ob,vb⟩:=hu
    refine go2 ?_
    refine yB (sE w2 wg o2 og gn (by omega)) (fun u hu => ?_)
    obtain ⟨cc,lc,cd,ld,rfl,wc,oc,vc,wd,od,vd⟩:=hu
    refine go2 ?_
    refine yB (vM m1 wa oa) (fun u hu => ?_)
    obtain ⟨es,rfl,he⟩:=hu
    obtain ⟨c5,l5,m5,rfl,_⟩:=he.two
    refine go2 ?_
    refine yB (vM false wc oc) (fun u hu => ?_)
    obtain ⟨fs,rfl,hf⟩:=hu
    obtain ⟨c6,l6,m6,rfl,_⟩:=hf.two
    refine go2 ?_
    rw [va,vg] at he
    rw [vc,vg] at hf
    obtain ⟨f1,f2,f3,f4,f5⟩:=red_div (m:=m1) (x:=val l1) y0
    have f3':(0:Int)<amt false (val l2 / (val l1).gcd (val l2)):=by
     simp only [amt,cond_false]
     omega
    refine RedK.fz (.of he hf (by omega)) f3' f1 (rel _ _ (by rw [e1,e2]; exact f2)) ?_ ?_
    ·rw [xS,←en,e1,xS]
     exact f4
    ·rw [xS,←ed,e2,xS]
     exact f5
  case true =>
   refine go2 ?_
   refine yB (sE w1 wg o1 og gn (by omega)) (fun u hu => ?_)
   obtain ⟨ca,la,cb,lb,rfl,wa,oa,va,wb,ob,vb⟩:=hu
   refine go2 ?_
   refine yB (sE w2 wg o2 og gn (by omega)) (fun u hu => ?_)
   obtain ⟨cc,lc,cd,ld,rfl,wc,oc,vc,wd,od,vd⟩:=hu
   refine go2 ?_
   refine yB (vM m1 wa oa) (fun u hu => ?_)
   obtain ⟨es,rfl,he⟩:=hu
   obtain ⟨c5,l5,m5,rfl,_⟩:=he.two
   refine go2 ?_
   refine yB (vM false wc oc) (fun u hu => ?_)
   obtain ⟨fs,rfl,hf⟩:=hu
   obtain ⟨c6,l6,m6,rfl,_⟩:=hf.two
   refine go2 ?_
   rw [va,vg] at he
   rw [vc,vg] at hf
   obtain ⟨f1,f2,f3,f4,f5⟩:=red_div (m:=m1) (x:=val l1) y0
   have f3':(0:Int)<amt false (val l2 / (val l1).gcd (val l2)):=by
    simp only [amt,cond_false]
    omega
   refine RedK.fz (.of he hf (by omega)) f3' f1 (rel _ _ (by rw [e1,e2]; exact f2)) ?_ ?_
   ·rw [xS,←en,e1,xS]
    exact f4
   ·rw [xS,←ed,e2,xS]
    exact f5
 case true =>
  refine go2 ?_
  refine yK (gN hn) (fun u hu => ?_)
  obtain ⟨es,rfl,hn1⟩:=hu
  refine go2 ?_
  refine yK (gN hd) (fun u hu => ?_)
  obtain ⟨fs,rfl,hd1⟩:=hu
  have hp:0 < -d:=by
   have:=val_pos o2 (g2 rfl)
   rw [e2]
   simp only [amt,cond_true]
   omega
  have rel:∀ a b:Int,a * -d = -n*b→a*d=n*b:=fun a b h => by
   rw [Int.mul_neg,Int.neg_mul] at h
   omega
  have en:(-n).natAbs=n.natAbs:=Int.natAbs_neg n
  have ed:(-d).natAbs=d.natAbs:=Int.natAbs_neg d
  generalize -n=n1 at hn1 rel en
  generalize -d=d1 at hd1 rel ed hp
  obtain ⟨c1,l1,m1,rfl,w1,o1,g1,e1⟩:=hn1.two
  obtain ⟨c2,l2,m2,rfl,w2,o2,g2,e2⟩:=hd1.two
  cases m2
  case true =>
   rw [e2] at hp
   simp only [amt,cond_true] at hp
   omega
  refine go2 ?_
  have a1:l1.length≤k:=xY o1 (by rw [←en,e1,xS] at sn; exact sn)
  have a2:l2.length≤k:=xY o2 (by rw [←ed,e2,xS] at sd; exact sd)
  refine yB (pV hd1) (fun u hu => ?_)
  obtain ⟨z,rfl,hz1⟩:=hu
  cases z
  case true =>
   refine go2 ?_
   have h1:=hz1.1 rfl
   refine RedK.fz (.of hn1 hd1 (by omega)) hp ?_ (rel _ _ rfl) (by omega) (by omega)
   rw [h1]
   simp
  refine go2 ?_
  refine yB (ref01_divisor w1 w2 o1 o2 (by omega) (by omega)) (fun u hu => ?_)
  obtain ⟨cg,lg,rfl,wg,og,vg⟩:=hu
  have y0:0<val l2:=by
   rw [e2] at hp
   simp only [amt,cond_false] at hp
   omega
  have g0:0<val lg:=by
   rw [vg]
   exact Nat.gcd_pos_of_pos_right _ y0
  have gn:lg≠[]:=fun e => by
   rw [e] at g0
   exact absurd g0 (by decide)
  have lg0:0<lg.length:=List.length_pos_iff.2 gn
  refine go2 ?_
  cases hq:yA Cm.neq (lg.length:Int) 1
  case false =>
   simp only [yA,yI] at hq
   have lg1:lg.length=1:=by omega
   refine go2 ?_
   cases hq2:yA Cm.neq ((at0 lg (0:Int).toNat:Nat):Int) 1
   case false =>
    simp only [yA,yI] at hq2
    have hg1:val lg=1:=by
     rw [len_one lg1]
     have:at0 lg (0:Int).toNat=at0 lg 0:=rfl
     omega
    refine go2 ?_
    refine RedK.fz (.of hn1 hd1 (by omega)) hp ?_ (rel _ _ rfl) (by omega) (by omega)
    rw [e1,e2,←hg1,vg]
    exact gcd_amt
   case true =>
    refine go2 ?_
    refine yB (sE w1 wg o1 og gn (by omega)) (fun u hu => ?_)
    obtain ⟨ca,la,cb,lb,rfl,wa,oa,va,wb,ob,vb⟩:=hu
    refine go2 ?_
    refine yB (sE w2 wg o2 og gn (by omega)) (fun u hu => ?_)
    obtain ⟨cc,lc,cd,ld,rfl,wc,oc,vc,wd,od,vd⟩:=hu
    refine go2 ?_
    refine yB (vM m1 wa oa) (fun u hu => ?_)
    obtain ⟨es,rfl,he⟩:=hu
    obtain ⟨c5,l5,m5,rfl,_⟩:=he.two
    refine go2 ?_
    refine yB (vM false wc oc) (fun u hu => ?_)
    obtain ⟨fs,rfl,hf⟩:=hu
    obtain ⟨c6,l6,m6,rfl,_⟩:=hf.two
    refine go2 ?_
    rw [va,vg] at he
    rw [vc,vg] at hf
    obtain ⟨f1,f2,f3,f4,f5⟩:=red_div (m:=m1) (x:=val l1) y0
    have f3':(0:Int)<amt false (val l2 / (val l1).gcd (val l2)):=by
     simp only [amt,cond_false]
     omega
    refine RedK.fz (.of he hf (by omega)) f3' f1 (rel _ _ (by rw [e1,e2]; exact f2)) ?_ ?_
    ·rw [xS,←en,e1,xS]
     exact f4
    ·rw [xS,←ed,e2,xS]
     exact f5
  case true =>
   refine go2 ?_
   refine yB (sE w1 wg o1 og gn (by omega)) (fun u hu => ?_)
   obtain ⟨ca,la,cb,lb,rfl,wa,oa,va,wb,ob,vb⟩:=hu
   refine go2 ?_
   refine yB (sE w2 wg o2 og gn (by omega)) (fun u hu => ?_)
   obtain ⟨cc,lc,cd,ld,rfl,wc,oc,vc,wd,od,vd⟩:=hu
   refine go2 ?_
   refine yB (vM m1 wa oa) (fun u hu => ?_)
   obtain ⟨es,rfl,he⟩:=hu
   obtain ⟨c5,l5,m5,rfl,_⟩:=he.two
   refine go2 ?_
   refine yB (vM false wc oc) (fun u hu => ?_)
   obtain ⟨fs,rfl,hf⟩:=hu
   obtain ⟨c6,l6,m6,rfl,_⟩:=hf.two
   refine go2 ?_
   rw [va,vg] at he
   rw [vc,vg] at hf
   obtain ⟨f1,f2,f3,f4,f5⟩:=red_div (m:=m1) (x:=val l1) y0
   have f3':(0:Int)<amt false (val l2 / (val l1).gcd (val l2)):=by
    simp only [amt,cond_false]
    omega
   refine RedK.fz (.of he hf (by omega)) f3' f1 (rel _ _ (by rw [e1,e2]; exact f2)) ?_ ?_
   ·rw [xS,←en,e1,xS]
    exact f4
   ·rw [xS,←ed,e2,xS]
    exact f5
end Go.Proofs.YtokckcnfojjpjaaGreat

namespace Go.Proofs.YtokckcnfojjpjaaGreat
open Go.RowKit
set_option maxRecDepth 20000
abbrev R2:=Int × Int
def iC (n:Int):C:=.int .i64 n
def uH (p q:R2):Prop:=p.1*q.2<q.1*p.2
noncomputable def mxR (p q:R2):R2:=bif dec (uH p q) then q else p
noncomputable def mnR (p q:R2):R2:=bif dec (uH q p) then q else p
def cmpR (p q:R2):Int:=sgn (p.1*q.2 - q.1*p.2)
structure Bd (k:Nat) (p:R2):Prop where
 n:Sz k p.1
 d:Sz k p.2
 pos:0<p.2
theorem Sz.mul {k:Nat} {a b:Int} (h1:Sz k a) (h2:Sz k b):Sz (k+k) (a*b):=by
 unfold Sz at *
 rw [Int.natAbs_mul,Nat.pow_add]
 exact Nat.mul_lt_mul'' h1 h2
theorem wI.bd {p:R2} (h:wI p.1 p.2):Bd 2 p:=by
 obtain ⟨h1,h2,h3,h4,h5⟩:=h
 refine ⟨?_,?_,by omega⟩
 ·unfold Sz
  omega
 ·unfold Sz
  omega
theorem Bd.mx {k:Nat} {p q:R2} (h1:Bd k p) (h2:Bd k q):Bd k (mxR p q):=by
 unfold mxR
 cases dec (uH p q)
 ·exact h1
 ·exact h2
theorem Bd.mn {k:Nat} {p q:R2} (h1:Bd k p) (h2:Bd k q):Bd k (mnR p q):=by
 unfold mnR
 cases dec (uH q p)
 ·exact h1
 ·exact h2
theorem cmp_gtr (p q:R2):yA Cm.gtr (cmpR p q) 0=dec (uH q p):=by
 have:cmpR p q > 0↔uH q p:=by
  unfold cmpR uH sgn
  split
  ·omega
  ·split <;> omega
 show dec _=_
 rw [propext this]
noncomputable def fitR (p:R2):Bool:=dec (-1000000000000≤p.1∧p.1≤1000000000000∧p.2≤1000000000000)
noncomputable def outV (p:R2):V:=bif fitR p then .tup [.agg [iC p.1,iC p.2],.c (.bool true)] else .tup [.agg [iC 0,iC 0],.c (.bool false)]
def RQK (p:R2) (u:V):Prop:=∃ cs,u=.agg cs∧IsRQ cs p.1 p.2
theorem RQK.fz {p:R2} {cs:List C} {H:Hp} (h:IsRQ cs p.1 p.2):∃ e,FzV H (.agg cs) e∧RQK p e:=⟨_,.agg (.hf h.hf),cs,rfl,h⟩
inductive IsQ:List C→R2→Prop
 | mk {ns ds:List C} {p:R2} (hn:IsZ ns p.1) (hd:IsZ ds p.2):IsQ (ns++ds) p
def QK (p:R2) (u:V):Prop:=∃ cs,u=.agg cs∧IsQ cs p
theorem IsQ.six {cs:List C} {p:R2} (h:IsQ cs p):∃ a b c d e f,cs=[a,b,c,d,e,f]∧IsZ [a,b,c] p.1∧IsZ [d,e,f] p.2:=by
 cases h with
 | mk hn hd =>
  obtain ⟨a,b,c,rfl⟩:=hn.three
  obtain ⟨d,e,f,rfl⟩:=hd.three
  exact ⟨_,_,_,_,_,_,rfl,hn,hd⟩
theorem IsQ.of {a b c d e f:C} {p:R2} (hn:IsZ [a,b,c] p.1) (hd:IsZ [d,e,f] p.2):IsQ [a,b,c,d,e,f] p:=.mk (ns:=[a,b,c]) (ds:=[d,e,f]) hn hd
theorem IsQ.hf {cs:List C} {p:R2} (h:IsQ cs p):HFL cs:=by
 obtain ⟨a,b,c,d,e,f,rfl,h1,h2⟩:=h.six
 obtain ⟨x1,x2,x3,_⟩:=h1.hf
 obtain ⟨y1,y2,y3,_⟩:=h2.hf
 exact ⟨x1,x2,x3,y1,y2,y3,trivial⟩
theorem QK.fz {p:R2} {cs:List C} {H:Hp} (h:IsQ cs p):∃ e,FzV H (.agg cs) e∧QK p e:=⟨_,.agg (.hf h.hf),cs,rfl,h⟩
attribute [local irreducible] yA semH semC qLen qNil qIad qSlc qIdx yU yL yY appX appI slcX awpF yP xE xopF xL qval lval seqQ xD xW xT xP cnd arith IntKind.wrap
theorem ref01_Of {p:R2} (h:wI p.1 p.2):semC Tryz.prog n_ref01_Of [.agg [iC p.1,iC p.2]] (RQK p):=by
 refine yD ok_ref01_Of rfl (show HFVs [.agg [iC p.1,iC p.2]] from ⟨⟨trivial,trivial,trivial⟩,trivial⟩) ?_
 have hb:=h.bd
 obtain ⟨h1,h2,h3,h4,h5⟩:=h
 refine go2 ?_
 refine yK (gF (v:=p.1) (by omega) (by omega)) (fun u hu => ?_)
 obtain ⟨cs,rfl,hn⟩:=hu
 refine go2 ?_
 refine yK (gF (v:=p.2) (by omega) (by omega)) (fun u hu => ?_)
 obtain ⟨ds,rfl,hd⟩:=hu
 refine go2 ?_
 refine yK (qR hn hd hb.n hb.d (by decide) (by omega)) (fun u hu => ?_)
 obtain ⟨es,a,b,rfl,hr,r1,r2,r3,r4,r5⟩:=hu
 obtain ⟨rfl,rfl⟩:=red_uniq r2 h5 r1 (by omega) r3
 have hr':=hr
 obtain ⟨c1,m1,c2,m2,d,rfl,_⟩:=hr'.four
 refine go2 ?_
 exact RQK.fz hr
def OutK (p:R2) (u:V):Prop:=u=outV p
theorem OutK.yes {p:R2} {H:Hp} (h:-1000000000000≤p.1∧p.1≤1000000000000∧p.2≤1000000000000):∃ e,FzV H (.tup [.agg [iC p.1,iC p.2],.c (.bool true)]) e∧OutK p e:=by
 refine ⟨_,.tup (.cons (.agg (.hf ⟨trivial,trivial,trivial⟩)) (.cons (.c (.hf trivial)) .nil)),?_⟩
 unfold OutK outV fitR
 rw [yG.2 h]
 rfl
theorem OutK.no {p:R2} {H:Hp} (h:¬ (-1000000000000≤p.1∧p.1≤1000000000000∧p.2≤1000000000000)):∃ e,FzV H (.tup [.agg [iC 0,iC 0],.c (.bool false)]) e∧OutK p e:=by
 refine ⟨_,.tup (.cons (.agg (.hf ⟨trivial,trivial,trivial⟩)) (.cons (.c (.hf trivial)) .nil)),?_⟩
 unfold OutK outV fitR
 rw [yI.2 h]
 rfl
theorem ref01_Rat {cs:List C} {p:R2} (hx:IsRQ cs p.1 p.2) (hp:0<p.2):semC Tryz.prog n_ref01_Rat [.agg cs] (OutK p):=by
 refine yD ok_ref01_Rat rfl (show HFVs [.agg cs] from ⟨hx.hf,trivial⟩) ?_
 obtain ⟨c1,m1,c2,m2,x,rfl,hn,hd,ex⟩:=hx.four
 refine go2 ?_
 refine yB (ref01_small hn) (fun u hu => ?_)
 obtain ⟨r,b,rfl,hb,hr⟩:=hu
 refine go2 ?_
 refine yB (pW hn hd) (fun u hu => ?_)
 obtain ⟨es,rfl,h1⟩:=hu
 rw [←ex] at h1
 refine go2 ?_
 refine yB (ref01_small h1) (fun u hu => ?_)
 obtain ⟨r',b',rfl,hb',hr'⟩:=hu
 refine go2 ?_
 cases b
 case false =>
  refine go2 ?_
  exact OutK.no (fun h => by
   have:=hb.2 (by omega)
   cases this)
 have e1:=hr rfl
 subst e1
 refine go2 ?_
 cases b'
 case false =>
  refine go2 ?_
  exact OutK.no (fun h => by
   have:=hb'.2 (by omega)
   cases this)
 have e2:=hr' rfl
 subst e2
 refine go2 ?_
 cases q1:yA Cm.lss p.1 (-1000000000000)
 case true =>
  simp only [yA,yG] at q1
  refine go2 ?_
  exact OutK.no (by omega)
 simp only [yA,yI] at q1
 refine go2 ?_
 cases q2:yA Cm.gtr p.1 1000000000000
 case true =>
  simp only [yA,yG] at q2
  refine go2 ?_
  exact OutK.no (by omega)
 simp only [yA,yI] at q2
 refine go2 ?_
 cases q3:yA Cm.gtr p.2 1000000000000
 case true =>
  simp only [yA,yG] at q3
  refine go2 ?_
  exact OutK.no (by omega)
 simp only [yA,yI] at q3
 refine go2 ?_
 exact OutK.yes (by omega)
theorem num_Of {p:R2} (h:wI p.1 p.2):semC Tryz.prog n_num_Of [.agg [iC p.1,iC p.2]] (QK p):=by
 refine yD ok_num_Of rfl (show HFVs [.agg [iC p.1,iC p.2]] from ⟨⟨trivial,trivial,trivial⟩,trivial⟩) ?_
 obtain ⟨h1,h2,h3,h4,h5⟩:=h
 refine go2 ?_
 refine yK (bG p.1 (by omega) (by omega)) (fun u hu => ?_)
 obtain ⟨cs,rfl,hn⟩:=hu
 refine go2 ?_
 refine yK (bG p.2 (by omega) (by omega)) (fun u hu => ?_)
 obtain ⟨ds,rfl,hd⟩:=hu
 obtain ⟨a,b,c,rfl⟩:=hn.three
 obtain ⟨d,e,f,rfl⟩:=hd.three
 refine go2 ?_
 exact QK.fz (.of hn hd)
theorem num_Q_Cmp {cs ds:List C} {p q:R2} {k:Nat} (hx:IsQ cs p) (hy:IsQ ds q) (bp:Bd k p) (bq:Bd k q) (hk:k≤268435456):semC Tryz.prog n_num_Q_Cmp [.agg cs,.agg ds] (IntK (cmpR p q)):=by
 refine yD ok_num_Q_Cmp rfl (show HFVs [.agg cs,.agg ds] from ⟨hx.hf,hy.hf,trivial⟩) ?_
 obtain ⟨a,b,c,d,e,f,rfl,h1,h2⟩:=hx.six
 obtain ⟨a',b',c',d',e',f',rfl,h3,h4⟩:=hy.six
 refine go2 ?_
 refine yK (uI h1 h4 bp.n bq.d (by omega)) (fun u hu => ?_)
 obtain ⟨es,rfl,h5⟩:=hu
 refine go2 ?_
 refine yK (uI h3 h2 bq.n bp.d (by omega)) (fun u hu => ?_)
 obtain ⟨fs,rfl,h6⟩:=hu
 refine go2 ?_
 refine yK (num_Z_Cmp h5 h6 (bp.n.mul bq.d) (bq.n.mul bp.d) (by omega)) (fun u hu => ?_)
 obtain rfl:=hu
 refine go2 ?_
 exact IntK.fz
theorem num_Q_Out {cs:List C} {p:R2} (hx:IsQ cs p) (hp:0<p.2):semC Tryz.prog n_num_Q_Out [.agg cs] (OutK p):=by
 refine yD ok_num_Q_Out rfl (show HFVs [.agg cs] from ⟨hx.hf,trivial⟩) ?_
 obtain ⟨a,b,c,d,e,f,rfl,h1,h2⟩:=hx.six
 refine go2 ?_
 refine yB (num_Z_Int (most:=1000000000000) h1 (by omega) (by omega)) (fun u hu => ?_)
 obtain ⟨r,b1,rfl,hb,hr⟩:=hu
 refine go2 ?_
 refine yB (num_Z_Int (most:=1000000000000) h2 (by omega) (by omega)) (fun u hu => ?_)
 obtain ⟨r',b2,rfl,hb',hr'⟩:=hu
 refine go2 ?_
 cases b1
 case false =>
  refine go2 ?_
  exact OutK.no (fun h => by
   have:=hb.2 (by omega)
   cases this)
 have e1:=hr rfl
 subst e1
 refine go2 ?_
 cases b2
 case false =>
  refine go2 ?_
  exact OutK.no (fun h => by
   have:=hb'.2 (by omega)
   cases this)
 have e2:=hr' rfl
 subst e2
 refine go2 ?_
 have e3:=hb.1 rfl
 have e4:=hb'.1 rfl
 exact OutK.yes (by omega)
end Go.Proofs.YtokckcnfojjpjaaGreat

namespace Go.Proofs.YtokckcnfojjpjaaGreat
open Go.RowKit
set_option maxRecDepth 20000
abbrev SP:=R2 × R2
def ratC (p:R2):List C:=[iC p.1,iC p.2]
def spanC (x:SP):List C:=[iC x.1.1,iC x.1.2,iC x.2.1,iC x.2.2]
def zeroC:List C:=[iC 0,iC 0,iC 0,iC 0]
def SpanOk (x:SP):Prop:=wI x.1.1 x.1.2∧wI x.2.1 x.2.2∧¬ uH x.2 x.1
structure BdS (k:Nat) (x:SP):Prop where
 lo:Bd k x.1
 hi:Bd k x.2
theorem SpanOk.bd {x:SP} (h:SpanOk x):BdS 2 x:=⟨h.1.bd,h.2.1.bd⟩
inductive IsE:List C→SP→Prop
 | mk {a b:List C} {x:SP} (h1:IsQ a x.1) (h2:IsQ b x.2):IsE (a++b) x
inductive IsS:List C→SP→Prop
 | mk {a b:List C} {x:SP} (h1:IsRQ a x.1.1 x.1.2) (h2:IsRQ b x.2.1 x.2.2):IsS (a++b) x
def EK (x:SP) (u:V):Prop:=∃ cs,u=.agg cs∧IsE cs x
def SK (x:SP) (u:V):Prop:=∃ cs,u=.agg cs∧IsS cs x
theorem HFL_app:∀ {x y:List C},HFL x→HFL y→HFL (x++y)
 | [],_,_,h => h
 | c :: x,y,h1,h2 => by
  simp only [HFL] at h1
  simp only [List.cons_append,HFL]
  exact ⟨h1.1,HFL_app h1.2 h2⟩
theorem IsE.hf {cs:List C} {x:SP} (h:IsE cs x):HFL cs:=by
 cases h with
 | mk h1 h2 => exact HFL_app h1.hf h2.hf
theorem IsS.hf {cs:List C} {x:SP} (h:IsS cs x):HFL cs:=by
 cases h with
 | mk h1 h2 => exact HFL_app h1.hf h2.hf
theorem EK.fz {x:SP} {cs:List C} {H:Hp} (h:IsE cs x):∃ e,FzV H (.agg cs) e∧EK x e:=⟨_,.agg (.hf h.hf),cs,rfl,h⟩
theorem SK.fz {x:SP} {cs:List C} {H:Hp} (h:IsS cs x):∃ e,FzV H (.agg cs) e∧SK x e:=⟨_,.agg (.hf h.hf),cs,rfl,h⟩
theorem IsE.of {a b c d e f a' b' c' d' e' f':C} {x:SP} (h1:IsQ [a,b,c,d,e,f] x.1) (h2:IsQ [a',b',c',d',e',f'] x.2):IsE [a,b,c,d,e,f,a',b',c',d',e',f'] x:=.mk (a:=[a,b,c,d,e,f]) h1 h2
theorem IsS.of {a b c d a' b' c' d':C} {x:SP} (h1:IsRQ [a,b,c,d] x.1.1 x.1.2) (h2:IsRQ [a',b',c',d'] x.2.1 x.2.2):IsS [a,b,c,d,a',b',c',d'] x:=.mk (a:=[a,b,c,d]) h1 h2
noncomputable def toldV (x:SP):V:=bif fitR x.1 && fitR x.2 then .tup [.agg (spanC x),i64 0] else .tup [.agg zeroC,i64 3]
attribute [local irreducible] yA semH semC qLen qNil qIad qSlc qIdx yU yL yY appX appI slcX awpF yP xE xopF xL qval lval seqQ xD xW xT xP cnd arith IntKind.wrap
end Go.Proofs.YtokckcnfojjpjaaGreat

namespace Go.Proofs.YtokckcnfojjpjaaGreat
open Go.RowKit
set_option maxRecDepth 20000
theorem fz_sl {p:BK→Prop} {H:Hp} {b n es:Nat} {co:Option Nat} {bx:Box} {ds:List C} (h:H[b]?=some (.live bx)) (hk:p bx.kind) (hk':bx.kind≠.bor) (hd:(bx.cells.drop 0).take (n*es)=ds) (hf:HFL ds):Fz p H (.sl b 0 n co es) (.imm n ds) :=
 .sl h hk hk' (by rw [hd]; exact FzL.hf hf)
def zeroE:List C:=[.int .i64 0,.nilSl,.bool false,.int .i64 0,.nilSl,.bool false,.int .i64 0,.nilSl,.bool false,.int .i64 0,.nilSl,.bool false]
noncomputable def checkB (g:Int) (l:List SP):Bool:=dec (∀ x∈l,SpanOk x) && dec (1≤g∧g≤1000000)
theorem vB {α:Type} {l:List α} {i:Nat} (h:i<l.length):l[i]∈l:=List.getElem_mem h
theorem jL (p:R2):HFL (ratC p):=⟨trivial,trivial,trivial⟩
noncomputable def wider (a:SP) (p:R2):SP:=(mnR a.1 p,mxR a.2 p)
theorem BdS.wider {k:Nat} {a:SP} {p:R2} (h:BdS k a) (hp:Bd k p):BdS k (wider a p):=⟨h.lo.mn hp,h.hi.mx hp⟩
theorem BdS.fold {k:Nat}:∀ {l:List R2} {a:SP},BdS k a→(∀ p∈l,Bd k p)→BdS k (l.foldl Proofs.YtokckcnfojjpjaaGreat.wider a)
 | [],_,h,_ => h
 | p :: t,_,h,hl => BdS.fold (l:=t) (h.wider (hl p (by simp))) (fun q hq => hl q (by simp [hq]))
theorem lessR_irr (p:R2):¬ uH p p:=by unfold uH; omega
attribute [local irreducible] yA semH semC qLen qNil qIad qSlc qIdx yU yL yY appX appI slcX awpF yP xE xopF xL qval lval seqQ xD xW xT xP cnd arith IntKind.wrap
end Go.Proofs.YtokckcnfojjpjaaGreat

namespace Go.Proofs.YtokckcnfojjpjaaGreat
open Go.RowKit
set_option maxRecDepth 20000
def zeroS:List C:=[.nilSl,.bool false,.nilSl,.bool false,.nilSl,.bool false,.nilSl,.bool false]
abbrev Cv:=List C × R2
def OkRQ (k:Nat) (e:Cv):Prop:=IsRQ e.1 e.2.1 e.2.2∧Bd k e.2
theorem OkRQ.len {k:Nat} {e:Cv} (h:OkRQ k e):e.1.length=4:=by
 obtain ⟨a,b,c,d,_,h1,_⟩:=h.1.four
 rw [h1]
 rfl
theorem wI.mx {p q:R2} (h1:wI p.1 p.2) (h2:wI q.1 q.2):wI (mxR p q).1 (mxR p q).2:=by
 unfold mxR
 cases dec (uH p q)
 ·exact h1
 ·exact h2
theorem wI.mn {p q:R2} (h1:wI p.1 p.2) (h2:wI q.1 q.2):wI (mnR p q).1 (mnR p q).2:=by
 unfold mnR
 cases dec (uH q p)
 ·exact h1
 ·exact h2
theorem wI.fit {p:R2} (h:wI p.1 p.2):fitR p=true:=by
 obtain ⟨h1,h2,h3,h4,h5⟩:=h
 unfold fitR
 exact yG.2 ⟨h3,h4,h2⟩
attribute [local irreducible] yA semH semC qLen qNil qIad qSlc qIdx yU yL yY appX appI slcX awpF yP xE xopF xL qval lval seqQ xD xW xT xP cnd arith IntKind.wrap
theorem goN {A B:Prop} (k:B) (h:Held B→A:=by
 intro hgo
 simp only [spanC,zeroC,ratC,zeroE,zeroS,List.set_cons_zero,List.set_cons_succ,List.nil_append,List.cons_append,List.append_nil,List.replicate_succ,List.replicate_zero,List.length_cons,List.length_nil,splice,List.take_succ_cons,List.take_zero,List.drop_succ_cons,List.drop_zero,List.take_nil,List.drop_nil,Nat.zero_add,Nat.reduceAdd,Nat.reduceMul,Int.reduceToNat,xX,List.getElem?_cons_succ,List.getElem?_cons_zero]
 exact hgo.out):A:=h ⟨k⟩
end Go.Proofs.YtokckcnfojjpjaaGreat

namespace Go.Proofs.YtokckcnfojjpjaaGreat
open Go.RowKit
set_option maxRecDepth 20000
def QuoK (a b:Int) (u:V):Prop:=∃ cs ds,u=.tup [.agg cs,.agg ds]∧IsZ cs (a.tdiv b)∧IsZ ds (a.tmod b)
theorem QuoK.fz {a b:Int} {cs ds:List C} {H:Hp} (h1:IsZ cs (a.tdiv b)) (h2:IsZ ds (a.tmod b)):∃ e,FzV H (.tup [.agg cs,.agg ds]) e∧QuoK a b e:=⟨_,.tup (.cons (.agg (.hf h1.hf)) (.cons (.agg (.hf h2.hf)) .nil)),_,_,rfl,h1,h2⟩
def QuoOk (S:Int→Prop):Prop:=∀ (cs ds:List C) (a b:Int),IsZ cs a→IsZ ds b→S a→S b→b≠0→semC Tryz.prog n_num_Z_Quo [.agg cs,.agg ds] (QuoK a b)
structure SCl (S:Int→Prop) (n:Nat):Prop where
 le:∀ a b:Int,S a→b.natAbs≤a.natAbs→S b
 sz:∀ a:Int,S a→Sz n a
 n:n≤268435456
def Sm (z:Int):Prop:=z.natAbs<9223372036854775808
theorem Sm.cl:SCl Sm 2:=⟨fun a b h1 h2 => by unfold Sm at *; omega,fun a h => by unfold Sm at h; unfold Sz; omega,by decide⟩
theorem nY (a b:Int):(a.tdiv b).natAbs≤a.natAbs:=by
 rw [Int.natAbs_tdiv]
 exact Nat.div_le_self _ _
theorem tmod_le (a b:Int):(a.tmod b).natAbs≤a.natAbs:=by
 rw [Int.natAbs_tmod]
 exact Nat.mod_le _ _
theorem ar_quo {k:IntKind} {a b:Int}:arith .quo k a b=k.wrap (a.tdiv b):=rfl
theorem snd_live (H:Hp) (s t:Slot):(H++[s]++[t])[H.length]?=some s:=by simp
theorem set_snd (H:Hp) (s t u:Slot):(H++[s]++[t]).set H.length u=H++[u]++[t]:=by simp
theorem last_at {H:Hp} {i:Nat} {s:Slot} (h:i=H.length):(H++[s])[i]?=some s:=by
 subst h
 simp
theorem set_at {H:Hp} {i:Nat} {s t:Slot} (h:i=H.length):(H++[s]).set i t=H++[t]:=by
 subst h
 simp
def sM (n d:Int) (u:V):Prop:=∃ cs p,u=.agg cs∧IsQ cs p∧0<p.2∧Int.gcd p.1 p.2=1∧p.1*d=n*p.2∧p.1.natAbs≤n.natAbs∧p.2.natAbs≤d.natAbs
theorem sM.fz {n d:Int} {p:R2} {cs:List C} {H:Hp} (h:IsQ cs p) (h1:0<p.2) (h2:Int.gcd p.1 p.2=1) (h3:p.1*d=n*p.2) (h4:p.1.natAbs≤n.natAbs) (h5:p.2.natAbs≤d.natAbs):∃ e,FzV H (.agg cs) e∧sM n d e :=
 ⟨_,.agg (.hf h.hf),cs,p,rfl,h,h1,h2,h3,h4,h5⟩
theorem gcd_tdiv {n d:Int} (hd:0<d):Int.gcd (n.tdiv (Int.gcd n d:Nat)) (d.tdiv (Int.gcd n d:Nat))=1∧n.tdiv (Int.gcd n d:Nat)*d=n*d.tdiv (Int.gcd n d:Nat)∧0<d.tdiv (Int.gcd n d:Nat):=by
 have hg:0<Int.gcd n d:=Int.gcd_pos_of_ne_zero_right _ (by omega)
 obtain ⟨k,hk⟩:=Int.gcd_dvd_left n d
 obtain ⟨m,hm⟩:=Int.gcd_dvd_right n d
 generalize hgg:Int.gcd n d=g at hg hk hm ⊢
 have hg':(g:Int)≠0:=by omega
 have e1:n.tdiv (g:Int)=k:=by rw [hk,Int.mul_tdiv_cancel_left _ hg']
 have e2:d.tdiv (g:Int)=m:=by rw [hm,Int.mul_tdiv_cancel_left _ hg']
 rw [e1,e2]
 refine ⟨?_,?_,?_⟩
 ·rw [hk,hm,Int.gcd_mul_left] at hgg
  simp only [Int.natAbs_natCast] at hgg
  exact Nat.eq_of_mul_eq_mul_left hg (by omega)
 ·rw [hk,hm]
  grind
 ·rcases Int.lt_trichotomy m 0 with h | h | h
  ·have:(g:Int)*m<0:=Int.mul_neg_of_pos_of_neg (by omega) h
   omega
  ·subst h
   simp at hm
   omega
  ·exact h
theorem floor_eq {a b:Int} (hb:0<b):a / b=if a.tmod b<0 then a.tdiv b - 1 else a.tdiv b:=by
 have e:=Int.mul_tdiv_add_tmod a b
 have hlt:(a.tmod b).natAbs<b.natAbs:=by
  rw [Int.natAbs_tmod]
  exact Nat.mod_lt _ (by omega)
 have hu:=fun (r q:Int) (h1:r+b*q=a) (h2:0≤r) (h3:r<b) => (Int.ediv_emod_unique hb).2 ⟨h1,h2,h3⟩
 split
 ·exact (hu (a.tmod b+b) (a.tdiv b - 1) (by rw [Int.mul_sub]; omega) (by omega) (by omega)).1
 ·exact (hu (a.tmod b) (a.tdiv b) (by omega) (by omega) (by omega)).1
attribute [local irreducible] yA semH semC qLen qNil qIad qSlc qIdx yU yL yY appX appI slcX awpF yP xE xopF xL qval lval seqQ xD xW xT xP cnd arith IntKind.wrap
theorem num_Z_Floor {S:Int→Prop} {n:Nat} (hS:SCl S n) (hQ:QuoOk S) {cs ds:List C} {a b:Int} (hx:IsZ cs a) (hy:IsZ ds b) (sa:S a) (sb:S b) (h0:0<b):semC Tryz.prog n_num_Z_Floor [.agg cs,.agg ds] (ZK (a / b)):=by
 refine yD ok_num_Z_Floor rfl (show HFVs [.agg cs,.agg ds] from ⟨hx.hf,hy.hf,trivial⟩) ?_
 obtain ⟨a1,a2,a3,rfl⟩:=hx.three
 obtain ⟨b1,b2,b3,rfl⟩:=hy.three
 rw [floor_eq h0]
 refine go2 ?_
 refine yB (hQ _ _ a b hx hy sa sb (by omega)) (fun u hu => ?_)
 obtain ⟨es,fs,rfl,hq,hr⟩:=hu
 obtain ⟨c1,c2,c3,rfl⟩:=hq.three
 obtain ⟨d1,d2,d3,rfl⟩:=hr.three
 refine go2 ?_
 refine yB (pR hr) (fun u hu => ?_)
 obtain rfl:=hu
 refine go2 ?_
 cases hc:yA Cm.lss (sgn (a.tmod b)) 0
 ·have h1:¬ a.tmod b<0:=by
   simp only [yA,yI] at hc
   unfold sgn at hc
   intro h
   rw [if_pos h] at hc
   omega
  rw [if_neg h1]
  refine go2 ?_
  exact ZK.fz hq
 ·have h1:a.tmod b<0:=by
   simp only [yA,yG] at hc
   unfold sgn at hc
   split at hc
   ·assumption
   ·split at hc <;> omega
  rw [if_pos h1]
  refine go2 ?_
  refine goN ?_
  refine yK (bG 1 (by omega) (by omega)) (fun u hu => ?_)
  obtain ⟨gs,rfl,h2⟩:=hu
  refine go2 ?_
  have hsz:Sz (n+1) 1:=by
   unfold Sz
   rw [Nat.pow_succ]
   have:=Nat.pow_pos (n:=n) (show 0<4294967296 by decide)
   omega
  have hsq:Sz (n+1) (a.tdiv b):=by
   have h3:=hS.sz _ (hS.le a _ sa (nY a b))
   unfold Sz at *
   rw [Nat.pow_succ]
   omega
  have hn:=hS.n
  refine yK (num_Z_Sub (n:=n+1) hq h2 hsq hsz (by omega)) (fun u hu => ?_)
  obtain ⟨ks,rfl,h4⟩:=hu
  obtain ⟨e1,e2,e3,rfl⟩:=h4.three
  refine go2 ?_
  exact ZK.fz h4
theorem num_Gcd {S:Int→Prop} {n:Nat} (hS:SCl S n) (hQ:QuoOk S) {cs ds:List C} {a b:Int} (hx:IsZ cs a) (hy:IsZ ds b) (sa:S a) (sb:S b):semC Tryz.prog n_num_Gcd [.agg cs,.agg ds] (ZK (Int.gcd a b:Nat)):=by
 refine yD ok_num_Gcd rfl (show HFVs [.agg cs,.agg ds] from ⟨hx.hf,hy.hf,trivial⟩) ?_
 obtain ⟨a1,a2,a3,rfl⟩:=hx.three
 obtain ⟨b1,b2,b3,rfl⟩:=hy.three
 have hn:=hS.n
 refine go2 ?_
 refine yK (num_Z_Abs hx (hS.sz _ sa) (by omega)) (fun u hu => ?_)
 obtain ⟨es,rfl,h1⟩:=hu
 refine go2 ?_
 refine yK (num_Z_Abs hy (hS.sz _ sb) (by omega)) (fun u hu => ?_)
 obtain ⟨fs,rfl,h2⟩:=hu
 obtain ⟨c1,c2,c3,rfl⟩:=h1.three
 obtain ⟨d1,d2,d3,rfl⟩:=h2.three
 refine go2 ?_
 refine yR (fun m vs H => ∃ (xs ys:List C) (x y:Int) (junk:Hp),vs=[.c (.ptr 0 0),.c (.ptr 1 0),.c (.ptr 2 0)]∧H=.live ⟨xs,xG,.rw⟩ :: .live ⟨ys,xG,.rw⟩ :: .live ⟨[.int .i64 0,.nilSl,.bool false],xG,.rw⟩ :: junk∧m=y.natAbs∧IsZ xs x∧IsZ ys y∧0≤x∧0≤y∧S x∧S y∧Int.gcd x y=Int.gcd a b) (by rfl) ⟨_,_,a.natAbs,b.natAbs,[],rfl,rfl,rfl,h1,h2,by omega,by omega,hS.le _ _ sa (by simp),hS.le _ _ sb (by simp),by simp [Int.gcd]⟩ ?_
 clear h1 h2
 rintro m vs H ⟨xs,ys,x,y,junk,rfl,rfl,rfl,k1,k2,k3,k4,k5,k6,k7⟩
 have k1':=k1
 have k2':=k2
 obtain ⟨c1,c2,c3,rfl⟩:=k1'.three
 obtain ⟨d1,d2,d3,rfl⟩:=k2'.three
 refine go2 ?_
 refine yB (pR k2) (fun u hu => ?_)
 obtain rfl:=hu
 refine go2 ?_
 cases hq:yA Cm.neq (sgn y) 0
 case false =>
  have hy0:y=0:=by
   simp only [yA,yI] at hq
   unfold sgn at hq
   split at hq
   ·omega
   ·split at hq <;> omega
  subst hy0
  rw [Int.gcd_zero_right] at k7
  refine go2 ?_
  have e:((Int.gcd a b:Nat):Int)=x:=by omega
  rw [e]
  exact ZK.fz k1
 have hy0:y≠0:=by
  simp only [yA,yG] at hq
  intro h
  rw [h] at hq
  exact hq rfl
 refine go2 ?_
 rcases k1.look with ⟨ex,x1,x2⟩ | ⟨lx,nx,ex,xn,xv,xe⟩
 ·simp only [List.cons.injEq,and_true] at ex
  obtain ⟨rfl,rfl,rfl⟩:=ex
  rcases k2.look with ⟨ey,y1,y2⟩ | ⟨ly,ny,ey,yn,yv,ye⟩
  ·simp only [List.cons.injEq,and_true] at ey
   obtain ⟨rfl,rfl,rfl⟩:=ey
   refine go2 ?_
   refine yR (fun m vs H => ∃ p q:Int,vs=[.c (.ptr 2 0),i64 p,i64 q]∧H=.live ⟨[.int .i64 x,.nilSl,.bool false],xG,.rw⟩ :: .live ⟨[.int .i64 y,.nilSl,.bool false],xG,.rw⟩ :: .live ⟨[.int .i64 0,.nilSl,.bool false],xG,.rw⟩ :: junk∧m=q.natAbs∧0≤p∧0≤q∧p<9223372036854775808∧q<9223372036854775808∧Int.gcd p q=Int.gcd a b) (by rfl) ⟨x,y,rfl,rfl,rfl,k3,k4,x2,y2,k7⟩ ?_
   rintro m vs H ⟨p,q,rfl,rfl,rfl,p1,p2,p3,p4,p5⟩
   refine go2 ?_
   cases hq2:yA Cm.neq q 0
   case false =>
    simp [yA] at hq2
    subst hq2
    rw [Int.gcd_zero_right] at p5
    refine go2 ?_
    have e:((Int.gcd a b:Nat):Int)=p:=by omega
    rw [e]
    exact ZK.fz (.small p (by omega) (by omega))
   simp [yA] at hq2
   refine go2 ?_
   refine q_ar (by rfl) (by rfl) (by simp [needs,hq2]) ?_
   refine go2 ?_
   rw [ar_rem]
   have hp:0≤p.tmod q:=Int.tmod_nonneg _ p1
   have hl:=gY (a:=p) hq2
   exact l_n (by rfl) hl ⟨q,p.tmod q,rfl,rfl,rfl,p2,hp,p4,by omega,bB.trans p5⟩
  ·simp only [List.cons.injEq,and_true] at ey
   obtain ⟨rfl,rfl,rfl⟩:=ey
   refine go2 ?_
   refine yB (hQ _ _ x y k1 k2 k5 k6 hy0) (fun u hu => ?_)
   obtain ⟨es,fs,rfl,hq2,hr⟩:=hu
   obtain ⟨g1,g2,g3,rfl⟩:=hq2.three
   obtain ⟨h1,h2,h3,rfl⟩:=hr.three
   refine go2 ?_
   refine xA (snd_live _ _ _) (by rfl) (by rfl) (Nat.le_of_ble_eq_true (by rfl)) ?_
   rw [set_snd]
   refine go2 ?_
   refine xA (last_at (by simp)) (by rfl) (by rfl) (Nat.le_of_ble_eq_true (by rfl)) ?_
   rw [set_at (by simp)]
   refine go2 ?_
   refine yO (last_at (by simp)) (by rfl) ?_
   refine go2 ?_
   have hp:0≤x.tmod y:=Int.tmod_nonneg _ k3
   exact l_n (by rfl) (gY (a:=x) hy0) ⟨_,_,y,x.tmod y,_,rfl,rfl,rfl,k2,hr,k4,hp,k6,hS.le _ _ k5 (tmod_le x y),bB.trans k7⟩
 ·simp only [List.cons.injEq,and_true] at ex
  obtain ⟨rfl,rfl,rfl⟩:=ex
  refine go2 ?_
  refine yB (hQ _ _ x y k1 k2 k5 k6 hy0) (fun u hu => ?_)
  obtain ⟨es,fs,rfl,hq2,hr⟩:=hu
  obtain ⟨g1,g2,g3,rfl⟩:=hq2.three
  obtain ⟨h1,h2,h3,rfl⟩:=hr.three
  refine go2 ?_
  refine xA (snd_live _ _ _) (by rfl) (by rfl) (Nat.le_of_ble_eq_true (by rfl)) ?_
  rw [set_snd]
  refine go2 ?_
  refine xA (last_at (by simp)) (by rfl) (by rfl) (Nat.le_of_ble_eq_true (by rfl)) ?_
  rw [set_at (by simp)]
  refine go2 ?_
  refine yO (last_at (by simp)) (by rfl) ?_
  refine go2 ?_
  have hp:0≤x.tmod y:=Int.tmod_nonneg _ k3
  exact l_n (by rfl) (gY (a:=x) hy0) ⟨_,_,y,x.tmod y,_,rfl,rfl,rfl,k2,hr,k4,hp,k6,hS.le _ _ k5 (tmod_le x y),bB.trans k7⟩
end Go.Proofs.YtokckcnfojjpjaaGreat

namespace Go.Proofs.YtokckcnfojjpjaaGreat
open Go.RowKit
set_option maxRecDepth 20000
theorem sgn_neg_iff (z:Int):sgn z<0↔z<0:=by
 unfold sgn
 split
 ·omega
 ·split <;> omega
theorem sgn_zero_iff (z:Int):sgn z=0↔z=0:=by
 unfold sgn
 split
 ·omega
 ·split <;> omega
theorem Sz.up {n m:Nat} {z:Int} (h:Sz n z) (hm:n≤m):Sz m z:=Nat.lt_of_lt_of_le h (Nat.pow_le_pow_right (by decide) hm)
theorem Sz.one {n:Nat}:Sz (n+1) 1:=by
 unfold Sz
 rw [Nat.pow_succ]
 have:=Nat.pow_pos (n:=n) (show 0<4294967296 by decide)
 omega
theorem gcd_le {n d:Int} (hd:d≠0):((Int.gcd n d:Nat):Int).natAbs≤d.natAbs:=by
 rw [Int.natAbs_natCast]
 exact Nat.le_of_dvd (by omega) (Nat.gcd_dvd_right _ _)
theorem ediv_le {a b:Int} (hb:0<b):(a / b).natAbs≤a.natAbs:=by
 rw [floor_eq hb]
 have h1:=nY a b
 split
 ·rename_i h
  have e:=Int.mul_tdiv_add_tmod a b
  rcases Int.lt_trichotomy a 0 with ha | ha | ha
  ·-- a<0: the quotient is at most 0,and one less is at least a
   rcases Int.lt_or_le (a.tdiv b) 1 with hq | hq
   ·have h2:a.tdiv b*b≤a.tdiv b*1:=Int.mul_le_mul_of_nonpos_left (by omega) (by omega)
    rw [Int.mul_comm b] at e
    omega
   ·have h2:0<b*a.tdiv b:=Int.mul_pos hb (by omega)
    have h3:=Int.tmod_lt_of_pos a hb
    omega
  ·subst ha
   simp at h
  ·have:=Int.tmod_nonneg b (a:=a) (by omega)
   omega
 ·exact h1
attribute [local irreducible] yA semH semC qLen qNil qIad qSlc qIdx yU yL yY appX appI slcX awpF yP xE xopF xL qval lval seqQ xD xW xT xP cnd arith IntKind.wrap
set_option maxHeartbeats 1000000 in
theorem pL {S:Int→Prop} {k:Nat} (hS:SCl S k) (hQ:QuoOk S) {cs ds:List C} {n d:Int} (hx:IsZ cs n) (hy:IsZ ds d) (sn:S n) (sd:S d) (h0:d≠0):semC Tryz.prog n_num_Over [.agg cs,.agg ds] (sM n d):=by
 refine yD ok_num_Over rfl (show HFVs [.agg cs,.agg ds] from ⟨hx.hf,hy.hf,trivial⟩) ?_
 obtain ⟨a1,a2,a3,rfl⟩:=hx.three
 obtain ⟨b1,b2,b3,rfl⟩:=hy.three
 have hk:=hS.n
 refine go2 ?_
 refine yB (pR hy) (fun u hu => ?_)
 obtain rfl:=hu
 refine go2 ?_
 cases hc:yA Cm.lss (sgn d) 0
 case false =>
  have hp:0<d:=by
   simp only [yA,yI] at hc
   have:=(sgn_neg_iff d).2
   omega
  have rel:∀ a b:Int,a*d=n*b→a*d=n*b:=fun _ _ h => h
  have en:n.natAbs=n.natAbs:=rfl
  have ed:d.natAbs=d.natAbs:=rfl
  have hn1:=hx
  have hd1:=hy
  have sn1:=sn
  have sd1:=sd
  refine go2 ?_
  refine yB (num_Gcd hS hQ hn1 hd1 sn1 sd1) (fun u hu => ?_)
  obtain ⟨gs,rfl,hg⟩:=hu
  obtain ⟨t1,t2,t3⟩:=gcd_tdiv (n:=n) (d:=d) hp
  have sg:S ((Int.gcd n d:Nat):Int):=hS.le _ _ sd1 (gcd_le (by omega))
  have g0:0<Int.gcd n d:=Int.gcd_pos_of_ne_zero_right _ (by omega)
  have fin:∀ {H:Hp} {q r:List C},IsZ q (n.tdiv (Int.gcd n d:Nat))→IsZ r (d.tdiv (Int.gcd n d:Nat))→∃ e,FzV H (.agg (q++r)) e∧sM n d e:=fun h1 h2 =>
   sM.fz (p:=(n.tdiv (Int.gcd n d:Nat),d.tdiv (Int.gcd n d:Nat))) (.mk h1 h2) t3 t1 (rel _ _ t2) (by have:=nY n (Int.gcd n d:Nat); simp only; omega) (by have:=nY d (Int.gcd n d:Nat); simp only; omega)
  have hg':=hg
  obtain ⟨c1,c2,c3,rfl⟩:=hg'.three
  refine go2 ?_
  rcases hg.look with ⟨ex,x1,x2⟩ | ⟨lx,nx,ex,xn,xv,xe⟩
  ·simp only [List.cons.injEq,and_true] at ex
   obtain ⟨rfl,rfl,rfl⟩:=ex
   refine go2 ?_
   cases hq:yA Cm.neq ((Int.gcd n d:Nat):Int) 1
   case false =>
    simp only [yA,yI] at hq
    have e1:((Int.gcd n d:Nat):Int)=1:=Decidable.byContradiction hq
    rw [e1,Int.tdiv_one,Int.tdiv_one] at fin
    refine go2 ?_
    exact fin hn1 hd1
   case true =>
    refine go2 ?_
    refine yB (hQ _ _ _ _ hn1 hg sn1 sg (by omega)) (fun u hu => ?_)
    obtain ⟨es,fs,rfl,h1,h2⟩:=hu
    obtain ⟨q1,q2,q3,rfl⟩:=h1.three
    obtain ⟨_,_,_,rfl⟩:=h2.three
    refine go2 ?_
    refine yB (hQ _ _ _ _ hd1 hg sd1 sg (by omega)) (fun u hu => ?_)
    obtain ⟨es,fs,rfl,h3,h4⟩:=hu
    obtain ⟨r1,r2,r3,rfl⟩:=h3.three
    obtain ⟨_,_,_,rfl⟩:=h4.three
    refine go2 ?_
    exact fin h1 h3
  ·simp only [List.cons.injEq,and_true] at ex
   obtain ⟨rfl,rfl,rfl⟩:=ex
   refine go2 ?_
   refine yB (hQ _ _ _ _ hn1 hg sn1 sg (by omega)) (fun u hu => ?_)
   obtain ⟨es,fs,rfl,h1,h2⟩:=hu
   obtain ⟨q1,q2,q3,rfl⟩:=h1.three
   obtain ⟨_,_,_,rfl⟩:=h2.three
   refine go2 ?_
   refine yB (hQ _ _ _ _ hd1 hg sd1 sg (by omega)) (fun u hu => ?_)
   obtain ⟨es,fs,rfl,h3,h4⟩:=hu
   obtain ⟨r1,r2,r3,rfl⟩:=h3.three
   obtain ⟨_,_,_,rfl⟩:=h4.three
   refine go2 ?_
   exact fin h1 h3
 case true =>
  have hp:0 < -d:=by
   simp only [yA,yG] at hc
   have:=(sgn_neg_iff d).1 hc
   omega
  refine go2 ?_
  refine yK (nO hx (hS.sz _ sn) (by omega)) (fun u hu => ?_)
  obtain ⟨es,rfl,hn1⟩:=hu
  refine go2 ?_
  refine yK (nO hy (hS.sz _ sd) (by omega)) (fun u hu => ?_)
  obtain ⟨fs,rfl,hd1⟩:=hu
  obtain ⟨a1,a2,a3,rfl⟩:=hn1.three
  obtain ⟨b1,b2,b3,rfl⟩:=hd1.three
  have rel:∀ a b:Int,a * -d = -n*b→a*d=n*b:=fun a b h => by
   rw [Int.mul_neg,Int.neg_mul] at h
   omega
  have en:(-n).natAbs=n.natAbs:=Int.natAbs_neg n
  have ed:(-d).natAbs=d.natAbs:=Int.natAbs_neg d
  have sn1:S (-n):=hS.le _ _ sn (by omega)
  have sd1:S (-d):=hS.le _ _ sd (by omega)
  generalize -n=n1 at hn1 rel en sn1
  generalize -d=d1 at hd1 rel ed hp sd1
  refine go2 ?_
  refine goN ?_
  refine yB (num_Gcd hS hQ hn1 hd1 sn1 sd1) (fun u hu => ?_)
  obtain ⟨gs,rfl,hg⟩:=hu
  obtain ⟨t1,t2,t3⟩:=gcd_tdiv (n:=n1) (d:=d1) hp
  have sg:S ((Int.gcd n1 d1:Nat):Int):=hS.le _ _ sd1 (gcd_le (by omega))
  have g0:0<Int.gcd n1 d1:=Int.gcd_pos_of_ne_zero_right _ (by omega)
  have fin:∀ {H:Hp} {q r:List C},IsZ q (n1.tdiv (Int.gcd n1 d1:Nat))→IsZ r (d1.tdiv (Int.gcd n1 d1:Nat))→∃ e,FzV H (.agg (q++r)) e∧sM n d e:=fun h1 h2 =>
   sM.fz (p:=(n1.tdiv (Int.gcd n1 d1:Nat),d1.tdiv (Int.gcd n1 d1:Nat))) (.mk h1 h2) t3 t1 (rel _ _ t2) (by have:=nY n1 (Int.gcd n1 d1:Nat); simp only; omega) (by have:=nY d1 (Int.gcd n1 d1:Nat); simp only; omega)
  have hg':=hg
  obtain ⟨c1,c2,c3,rfl⟩:=hg'.three
  refine go2 ?_
  rcases hg.look with ⟨ex,x1,x2⟩ | ⟨lx,nx,ex,xn,xv,xe⟩
  ·simp only [List.cons.injEq,and_true] at ex
   obtain ⟨rfl,rfl,rfl⟩:=ex
   refine go2 ?_
   cases hq:yA Cm.neq ((Int.gcd n1 d1:Nat):Int) 1
   case false =>
    simp only [yA,yI] at hq
    have e1:((Int.gcd n1 d1:Nat):Int)=1:=Decidable.byContradiction hq
    rw [e1,Int.tdiv_one,Int.tdiv_one] at fin
    refine go2 ?_
    exact fin hn1 hd1
   case true =>
    refine go2 ?_
    refine yB (hQ _ _ _ _ hn1 hg sn1 sg (by omega)) (fun u hu => ?_)
    obtain ⟨es,fs,rfl,h1,h2⟩:=hu
    obtain ⟨q1,q2,q3,rfl⟩:=h1.three
    obtain ⟨_,_,_,rfl⟩:=h2.three
    refine go2 ?_
    refine yB (hQ _ _ _ _ hd1 hg sd1 sg (by omega)) (fun u hu => ?_)
    obtain ⟨es,fs,rfl,h3,h4⟩:=hu
    obtain ⟨r1,r2,r3,rfl⟩:=h3.three
    obtain ⟨_,_,_,rfl⟩:=h4.three
    refine go2 ?_
    exact fin h1 h3
  ·simp only [List.cons.injEq,and_true] at ex
   obtain ⟨rfl,rfl,rfl⟩:=ex
   refine go2 ?_
   refine yB (hQ _ _ _ _ hn1 hg sn1 sg (by omega)) (fun u hu => ?_)
   obtain ⟨es,fs,rfl,h1,h2⟩:=hu
   obtain ⟨q1,q2,q3,rfl⟩:=h1.three
   obtain ⟨_,_,_,rfl⟩:=h2.three
   refine go2 ?_
   refine yB (hQ _ _ _ _ hd1 hg sd1 sg (by omega)) (fun u hu => ?_)
   obtain ⟨es,fs,rfl,h3,h4⟩:=hu
   obtain ⟨r1,r2,r3,rfl⟩:=h3.three
   obtain ⟨_,_,_,rfl⟩:=h4.three
   refine go2 ?_
   exact fin h1 h3
theorem bQ {cs:List C} {p:R2} {k:Nat} (hx:IsQ cs p) (sp:Sz k p.2) (hk:k≤268435456):semC Tryz.prog n_num_Q_IsInt [.agg cs] (uE (p.2=1)):=by
 refine yD ok_num_Q_IsInt rfl (show HFVs [.agg cs] from ⟨hx.hf,trivial⟩) ?_
 obtain ⟨a,b,c,d,e,f,rfl,h1,h2⟩:=hx.six
 refine go2 ?_
 refine yK (bG 1 (by omega) (by omega)) (fun u hu => ?_)
 obtain ⟨gs,rfl,h3⟩:=hu
 refine go2 ?_
 refine yK (num_Z_Cmp (n:=k+1) h2 h3 (sp.up (by omega)) .one (by omega)) (fun u hu => ?_)
 obtain rfl:=hu
 refine go2 ?_
 refine uE.fz ?_
 simp only [yA,yG,sgn_zero_iff]
 omega
theorem num_Int {g:Int} (h1:-9223372036854775808≤g) (h2:g<9223372036854775808):semC Tryz.prog n_num_Int [i64 g] (QK (g,1)):=by
 refine yD ok_num_Int rfl (show HFVs [i64 g] from ⟨trivial,trivial⟩) ?_
 refine go2 ?_
 refine yB (bG g h1 h2) (fun u hu => ?_)
 obtain ⟨es,rfl,h3⟩:=hu
 refine go2 ?_
 refine yB (bG 1 (by omega) (by omega)) (fun u hu => ?_)
 obtain ⟨fs,rfl,h4⟩:=hu
 obtain ⟨a,b,c,rfl⟩:=h3.three
 obtain ⟨d,e,f,rfl⟩:=h4.three
 refine go2 ?_
 exact QK.fz (p:=(g,1)) (.of h3 h4)
theorem num_Q_Floor {S:Int→Prop} {n:Nat} (hS:SCl S n) (hQ:QuoOk S) {cs:List C} {p:R2} (hx:IsQ cs p) (s1:S p.1) (s2:S p.2) (h0:0<p.2):semC Tryz.prog n_num_Q_Floor [.agg cs] (ZK (p.1 / p.2)):=by
 refine yD ok_num_Q_Floor rfl (show HFVs [.agg cs] from ⟨hx.hf,trivial⟩) ?_
 obtain ⟨a,b,c,d,e,f,rfl,h1,h2⟩:=hx.six
 refine go2 ?_
 refine yB (num_Z_Floor hS hQ h1 h2 s1 s2 h0) (fun u hu => ?_)
 obtain ⟨es,rfl,h3⟩:=hu
 obtain ⟨a,b,c,rfl⟩:=h3.three
 refine go2 ?_
 exact ZK.fz h3
theorem num_Q_Mul {S:Int→Prop} {n k:Nat} (hS:SCl S n) (hQ:QuoOk S) {cs ds:List C} {p q:R2} (hx:IsQ cs p) (hy:IsQ ds q) (bp:Bd k p) (bq:Bd k q) (hk:k≤268435456) (s1:S (p.1*q.1)) (s2:S (p.2*q.2)):semC Tryz.prog n_num_Q_Mul [.agg cs,.agg ds] (sM (p.1*q.1) (p.2*q.2)):=by
 refine yD ok_num_Q_Mul rfl (show HFVs [.agg cs,.agg ds] from ⟨hx.hf,hy.hf,trivial⟩) ?_
 obtain ⟨a,b,c,d,e,f,rfl,h1,h2⟩:=hx.six
 obtain ⟨a',b',c',d',e',f',rfl,h3,h4⟩:=hy.six
 have hpos:0<p.2*q.2:=Int.mul_pos bp.pos bq.pos
 refine go2 ?_
 refine yB (bQ hx bp.d hk) (fun u hu => ?_)
 obtain ⟨z1,rfl,i1⟩:=hu
 cases z1
 case false =>
  refine go2 ?_
  refine yK (uI h1 h3 bp.n bq.n (by omega)) (fun u hu => ?_)
  obtain ⟨es,rfl,h5⟩:=hu
  refine go2 ?_
  refine yK (uI h2 h4 bp.d bq.d (by omega)) (fun u hu => ?_)
  obtain ⟨fs,rfl,h6⟩:=hu
  refine go2 ?_
  refine yK (pL hS hQ h5 h6 s1 s2 (by omega)) (fun u hu => ?_)
  obtain ⟨gs,r,rfl,r1,r2,r3,r4,r5,r6⟩:=hu
  obtain ⟨x,y,z,w,v,t,rfl,_⟩:=r1.six
  refine go2 ?_
  exact sM.fz r1 r2 r3 r4 r5 r6
 case true =>
  have e1:=i1.1 rfl
  refine go2 ?_
  refine yB (bQ hy bq.d hk) (fun u hu => ?_)
  obtain ⟨z2,rfl,i2⟩:=hu
  cases z2
  case false =>
   refine go2 ?_
   refine yK (uI h1 h3 bp.n bq.n (by omega)) (fun u hu => ?_)
   obtain ⟨es,rfl,h5⟩:=hu
   refine go2 ?_
   refine yK (uI h2 h4 bp.d bq.d (by omega)) (fun u hu => ?_)
   obtain ⟨fs,rfl,h6⟩:=hu
   refine go2 ?_
   refine yK (pL hS hQ h5 h6 s1 s2 (by omega)) (fun u hu => ?_)
   obtain ⟨gs,r,rfl,r1,r2,r3,r4,r5,r6⟩:=hu
   obtain ⟨x,y,z,w,v,t,rfl,_⟩:=r1.six
   refine go2 ?_
   exact sM.fz r1 r2 r3 r4 r5 r6
  case true =>
   have e2:=i2.1 rfl
   refine go2 ?_
   refine yK (uI h1 h3 bp.n bq.n (by omega)) (fun u hu => ?_)
   obtain ⟨es,rfl,h5⟩:=hu
   obtain ⟨x,y,z,rfl⟩:=h5.three
   refine go2 ?_
   refine sM.fz (p:=(p.1*q.1,p.2)) (.of h5 h2) bp.pos ?_ ?_ (Nat.le_refl _) ?_
   ·rw [e1]
    simp
   ·rw [e1,e2]
    simp
   ·rw [e1,e2]
    simp
end Go.Proofs.YtokckcnfojjpjaaGreat

namespace Go.Proofs.YtokckcnfojjpjaaGreat
open Go.RowKit
set_option maxRecDepth 20000
def OkQ (k:Nat) (e:Cv):Prop:=IsQ e.1 e.2∧Bd k e.2
theorem OkQ.len {k:Nat} {e:Cv} (h:OkQ k e):e.1.length=6:=by
 obtain ⟨a,b,c,d,e,f,h1,_⟩:=h.1.six
 rw [h1]
 rfl
structure Red (n d:Int) (p:R2):Prop where
 pos:0<p.2
 gcd:Int.gcd p.1 p.2=1
 eq:p.1*d=n*p.2
 n:p.1.natAbs≤n.natAbs
 d:p.2.natAbs≤d.natAbs
theorem sM.red {n d:Int} {u:V} (h:sM n d u):∃ cs p,u=.agg cs∧IsQ cs p∧Red n d p:=by
 obtain ⟨cs,p,h1,h2,h3,h4,h5,h6,h7⟩:=h
 exact ⟨cs,p,h1,h2,h3,h4,h5,h6,h7⟩
theorem Red.bd {n d:Int} {p:R2} {k:Nat} (h:Red n d p) (h1:Sz k n) (h2:Sz k d):Bd k p:=⟨Nat.lt_of_le_of_lt h.n h1,Nat.lt_of_le_of_lt h.d h2,h.pos⟩
attribute [local irreducible] yA semH semC qLen qNil qIad qSlc qIdx yU yL yY appX appI slcX awpF yP xE xopF xL qval lval seqQ xD xW xT xP cnd arith IntKind.wrap
def OutwK (x:SP) (g:Int) (u:V):Prop:=∃ lo hi,Red (x.1.1*g / x.1.2) g lo∧Red (-(-(x.2.1*g) / x.2.2)) g hi∧u=toldV (lo,hi)
end Go.Proofs.YtokckcnfojjpjaaGreat
