/-
  Parts of the proof: Abstract values without addresses, the boxes of a call's own memory, and what it means that a world bears them. No program in sight.
-/
import Derived.Laws.Rows
import Derived.Laws.CopyRow
import Derived.Below
set_option linter.unusedVariables false
set_option linter.unusedSimpArgs false
namespace Go.Proofs.Ytokckcnfojjpjaa
open Go.RowKit
inductive C where
 | bool (b:Bool)
 | int (k:IntKind) (n:Int)
 | str (s:ByteArray)
 | nilSl
 | imm (n:Nat) (cs:List C)
 | sl (b off n:Nat) (cap:Option Nat) (es:Nat)
 | nilPtr
 | ptr (b off:Nat)
 | ipt (cs:List C)
 | nilFn
 | fn (f:FuncId) (cap:List C)
 | nilIface
 | ifaceC (t:TypeId) (c:C)
 | ifaceA (t:TypeId) (cs:List C)
 | mp (b:Nat)
 deriving Inhabited
inductive V where
 | c (x:C)
 | agg (cs:List C)
 | tup (vs:List V)
 deriving Inhabited
def uG (w:World) (k:Nat):Option Nat:=match w.heap[k]? with
 | some (.cells c _ _) => some c.size
 | _ => none
structure Cx where
 w:World
 β:Nat→Nat
 own:Nat→Prop
 nb:Nat→Prop
mutual
inductive R (x:Cx):C→Value→Prop
 | bool (b:Bool):R x (.bool b) (.bool b)
 | int (k:IntKind) (n:Int):R x (.int k n) (.int k n)
 | str (s:ByteArray):R x (.str s) (.string s)
 | nilSl:R x .nilSl (.slice none 0 0)
 | imm {n:Nat} {cs:List C} {a:Addr} {cap:Nat} {vs:List Value} (hn:n≤cap) (hc:∀ j v,vs[j]?=some v→¬ x.own a.block∧x.w.cell? (a.add j)=some v) (hr:RL x cs vs):R x (.imm n cs) (.slice (some a) n cap)
 | sl {b off off' n es m:Nat} {co:Option Nat} {cap:Nat} (hb:x.nb b) (hn:n≤cap) (hco:∀ k,co=some k→k=cap) (ho:cap≠0→off'=off) (hm:uG x.w (x.β b)=some m) (hfit:off'+cap*es≤m):R x (.sl b off n co es) (.slice (some ⟨x.β b,off',none⟩) n cap)
 | nilPtr:R x .nilPtr (.pointer none)
 | ptr {b off:Nat} (hb:x.nb b):R x (.ptr b off) (.pointer (some ⟨x.β b,off,none⟩))
 | ipt {cs:List C} {a:Addr} {vs:List Value} (hc:∀ j v,vs[j]?=some v→¬ x.own a.block∧x.w.cell? (a.add j)=some v) (hr:RL x cs vs):R x (.ipt cs) (.pointer (some a))
 | nilFn:R x .nilFn .nilFunc
 | fn {f:FuncId} {cs:List C} {vs:List Value} (hr:RL x cs vs):R x (.fn f cs) (.func (.func f) #[] vs.toArray)
 | nilIface:R x .nilIface .nilIface
 | ifaceC {t:TypeId} {c:C} {v:Value} (hr:R x c v):R x (.ifaceC t c) (.iface t v)
 | ifaceA {t:TypeId} {cs:List C} {vs:List Value} (hr:RL x cs vs):R x (.ifaceA t cs) (.iface t (.agg vs.toArray))
 | mp {b:Nat} (hb:x.nb b):R x (.mp b) (.map (some (x.β b)))
inductive RL (x:Cx):List C→List Value→Prop
 | nil:RL x [] []
 | cons {c:C} {v:Value} {cs:List C} {vs:List Value} (h:R x c v) (t:RL x cs vs):RL x (c :: cs) (v :: vs)
end
mutual
inductive RV (x:Cx):V→Value→Prop
 | c {c:C} {v:Value} (h:R x c v):RV x (.c c) v
 | agg {cs:List C} {vs:List Value} (h:RL x cs vs):RV x (.agg cs) (.agg vs.toArray)
 | tup {us:List V} {vs:List Value} (h:RVL x us vs):RV x (.tup us) (.tuple vs.toArray)
inductive RVL (x:Cx):List V→List Value→Prop
 | nil:RVL x [] []
 | cons {u:V} {v:Value} {us:List V} {vs:List Value} (h:RV x u v) (t:RVL x us vs):RVL x (u :: us) (v :: vs)
end
structure Cx.To (x y:Cx):Prop where
 beta:∀ i,x.nb i→y.β i=x.β i
 nb:∀ i,x.nb i→y.nb i
 keep:∀ k,k<x.w.heap.size→¬ x.own k→¬ y.own k∧y.w.heap[k]?=x.w.heap[k]?
 rows:∀ k,k<x.w.heap.size→uG y.w k=uG x.w k
theorem rowSize_lt {w:World} {k m:Nat} (h:uG w k=some m):k<w.heap.size:=by
 unfold uG at h
 split at h
 ·rename_i he
  exact (Array.getElem?_eq_some_iff.1 he).1
 ·cases h
theorem vP {w:World} {k:Nat} {c:Array Value} {t:TypeId} {fr:Nat × Nat} (h:w.heap[k]?=some (.cells c t fr)):uG w k=some c.size:=by simp [uG,h]
theorem sZ {w w':World} {k:Nat} (h:w'.heap[k]?=w.heap[k]?):uG w' k=uG w k:=by simp [uG,h]
theorem gE {w w':World} {a:Addr} (h:w'.heap[a.block]?=w.heap[a.block]?):w'.cell? a=w.cell? a:=World.cell?_of_block (w:=w) h
theorem uK (a:Addr) (j:Nat):(a.add j).block=a.block:=by unfold Addr.add; split <;> rfl
mutual
theorem R.to {x y:Cx} (h:x.To y):∀ {c:C} {v:Value},R x c v→R y c v
 | _,_,.bool b => .bool b
 | _,_,.int k n => .int k n
 | _,_,.str s => .str s
 | _,_,.nilSl => .nilSl
 | _,_,.imm (a:=a) hn hc hr => .imm hn (fun j v hj => by
   obtain ⟨ho,hw⟩:=hc j v hj
   have hlt:a.block<x.w.heap.size:=by have:=World.block_lt_of_cell? x.w _ hw; rwa [uK] at this
   obtain ⟨k1,k2⟩:=h.keep _ hlt ho
   exact ⟨k1,by rw [gE (w:=x.w) (by rw [uK]; exact k2)]; exact hw⟩) (hr.to h)
 | _,_,.sl hb hn hco ho hm hfit => by rw [←h.beta _ hb]; exact .sl (h.nb _ hb) hn hco ho (by rw [h.beta _ hb,h.rows _ (rowSize_lt hm)]; exact hm) hfit
 | _,_,.nilPtr => .nilPtr
 | _,_,.ptr hb => by rw [←h.beta _ hb]; exact .ptr (h.nb _ hb)
 | _,_,.ipt (a:=a) hc hr => .ipt (fun j v hj => by
   obtain ⟨ho,hw⟩:=hc j v hj
   have hlt:a.block<x.w.heap.size:=by have:=World.block_lt_of_cell? x.w _ hw; rwa [uK] at this
   obtain ⟨k1,k2⟩:=h.keep _ hlt ho
   exact ⟨k1,by rw [gE (w:=x.w) (by rw [uK]; exact k2)]; exact hw⟩) (hr.to h)
 | _,_,.nilFn => .nilFn
 | _,_,.fn hr => .fn (hr.to h)
 | _,_,.nilIface => .nilIface
 | _,_,.ifaceC hr => .ifaceC (hr.to h)
 | _,_,.ifaceA hr => .ifaceA (hr.to h)
 | _,_,.mp hb => by rw [←h.beta _ hb]; exact .mp (h.nb _ hb)
theorem RL.to {x y:Cx} (h:x.To y):∀ {cs:List C} {vs:List Value},RL x cs vs→RL y cs vs
 | _,_,.nil => .nil
 | _,_,.cons h1 h2 => .cons (h1.to h) (h2.to h)
end
mutual
theorem RV.to {x y:Cx} (h:x.To y):∀ {u:V} {v:Value},RV x u v→RV y u v
 | _,_,.c h1 => .c (h1.to h)
 | _,_,.agg h1 => .agg (h1.to h)
 | _,_,.tup h1 => .tup (h1.to h)
theorem RVL.to {x y:Cx} (h:x.To y):∀ {us:List V} {vs:List Value},RVL x us vs→RVL y us vs
 | _,_,.nil => .nil
 | _,_,.cons h1 h2 => .cons (h1.to h) (h2.to h)
end
theorem R.one {x:Cx} {c:C} {v:Value} (h:R x c v):v.oneCell'=true:=by cases h <;> rfl
theorem RL.len {x:Cx}:∀ {cs:List C} {vs:List Value},RL x cs vs→vs.length=cs.length
 | _,_,.nil => rfl
 | _,_,.cons _ h => by simp [h.len]
theorem RL.one {x:Cx}:∀ {cs:List C} {vs:List Value},RL x cs vs→∀ v∈vs,v.oneCell'=true
 | _,_,.nil,v,hv => by cases hv
 | _,_,.cons h t,v,hv => by
  rcases List.mem_cons.1 hv with rfl | hv
  ·exact h.one
  ·exact t.one v hv
theorem RL.get {x:Cx}:∀ {cs:List C} {vs:List Value},RL x cs vs→∀ {i:Nat} {c:C},cs[i]?=some c→∃ v,vs[i]?=some v∧R x c v
 | _,_,.nil,i,c,h => by simp at h
 | _,_,.cons h t,0,c,hc => by
  simp at hc
  subst hc
  exact ⟨_,rfl,h⟩
 | _,_,.cons h t,i+1,c,hc => by
  simp at hc
  obtain ⟨v,hv,hr⟩:=t.get hc
  exact ⟨v,by simpa using hv,hr⟩
theorem RVL.len {x:Cx}:∀ {cs:List V} {vs:List Value},RVL x cs vs→vs.length=cs.length
 | _,_,.nil => rfl
 | _,_,.cons _ h => by simp [h.len]
theorem RVL.get {x:Cx}:∀ {cs:List V} {vs:List Value},RVL x cs vs→∀ {i:Nat} {c:V},cs[i]?=some c→∃ v,vs[i]?=some v∧RV x c v
 | _,_,.nil,i,c,h => by simp at h
 | _,_,.cons h t,0,c,hc => by
  simp at hc
  subst hc
  exact ⟨_,rfl,h⟩
 | _,_,.cons h t,i+1,c,hc => by
  simp at hc
  obtain ⟨v,hv,hr⟩:=t.get hc
  exact ⟨v,by simpa using hv,hr⟩
theorem RL.append {x:Cx}:∀ {cs ds:List C} {vs us:List Value},RL x cs vs→RL x ds us→RL x (cs++ds) (vs++us)
 | _,_,_,_,.nil,h => h
 | _,_,_,_,.cons h t,k => .cons h (t.append k)
theorem RL.take {x:Cx}:∀ {cs:List C} {vs:List Value},RL x cs vs→∀ n,RL x (cs.take n) (vs.take n)
 | _,_,h,0 => by simpa using .nil
 | _,_,.nil,n+1 => .nil
 | _,_,.cons h t,n+1 => .cons h (t.take n)
theorem RL.drop {x:Cx}:∀ {cs:List C} {vs:List Value},RL x cs vs→∀ n,RL x (cs.drop n) (vs.drop n)
 | _,_,h,0 => by simpa using h
 | _,_,.nil,n+1 => .nil
 | _,_,.cons h t,n+1 => t.drop n
inductive BK where
 | rw | ro | bor
 deriving DecidableEq,Inhabited
structure Box where
 cells:List C
 elem:TypeId
 kind:BK
 deriving Inhabited
inductive Slot where
 | unb
 | dead
 | live (bx:Box)
 | mp (es:List (Int × C))
 deriving Inhabited
inductive ER (x:Cx):List (Int × C)→List MapEntry→Prop
 | nil:ER x [] []
 | cons {k:Int} {c:C} {es:List (Int × C)} {e:MapEntry} {r:List MapEntry} (hk:e.key=.int .i64 k) (hv:R x c e.val) (t:ER x es r):ER x ((k,c) :: es) (e :: r)
theorem ER.to {x y:Cx} (h:x.To y):∀ {es:List (Int × C)} {r:List MapEntry},ER x es r→ER y es r
 | _,_,.nil => .nil
 | _,_,.cons hk hv t => .cons hk (hv.to h) (t.to h)
abbrev Hp:=List Slot
def born (H:Hp) (i:Nat):Prop:=∃ s,H[i]?=some s∧s≠.unb
def wr (β:Nat→Nat) (H:Hp) (k:Nat):Prop:=(∃ i bx,H[i]?=some (.live bx)∧bx.kind=.rw∧β i=k)∨∃ i es,H[i]?=some (.mp es)∧β i=k
def sU (base:Nat→Prop) (β:Nat→Nat) (H:Hp) (k:Nat):Prop:=base k∨wr β H k
def cx (base:Nat→Prop) (w:World) (β:Nat→Nat) (H:Hp):Cx:=⟨w,β,sU base β H,born H⟩
structure HRel (base:Nat→Prop) (w:World) (β:Nat→Nat) (H:Hp):Prop where
 cells:∀ i bx,H[i]?=some (.live bx)→∃ (vs rest:List Value) (fr:Nat × Nat),w.heap[β i]?=some (.cells (vs++rest).toArray bx.elem fr)∧(bx.kind≠.bor→fr=(0,0))∧RL (cx base w β H) bx.cells vs
 inj:∀ i j bx bx',H[i]?=some (.live bx)→H[j]?=some (.live bx')→β i=β j→i=j
 nbase:∀ i bx,H[i]?=some (.live bx)→bx.kind≠.bor→¬ base (β i)
 bsize:∀ k,base k→k<w.heap.size
 maps:∀ i es,H[i]?=some (.mp es)→∃ (ents:Array MapEntry) (clock:Nat),w.heap[β i]?=some (.map ents clock)∧ER (cx base w β H) es ents.toList∧¬ base (β i)
 minj:∀ i j es es',H[i]?=some (.mp es)→H[j]?=some (.mp es')→β i=β j→i=j
structure Ext (w:World) (β:Nat→Nat) (H:Hp) (w':World) (β':Nat→Nat) (H':Hp):Prop where
 beta:∀ i,born H i→β' i=β i
 len:∀ i,born H i→born H' i
 size:w.heap.size≤w'.heap.size
 keep:∀ k,k<w.heap.size→¬ wr β H k→¬ wr β' H' k∧w'.heap[k]?=w.heap[k]?
 rows:∀ k,k<w.heap.size→uG w' k=uG w k
 os:w'.os=w.os
 tape:w'.tape=w.tape
 output:w'.output=w.output
theorem Ext.refl (w:World) (β:Nat→Nat) (H:Hp):Ext w β H w β H:=⟨fun _ _ => rfl,fun _ h => h,Nat.le_refl _,fun _ _ h => ⟨h,rfl⟩,fun _ _ => rfl,rfl,rfl,rfl⟩
theorem Ext.trans {w w1 w2:World} {β β1 β2:Nat→Nat} {H H1 H2:Hp} (a:Ext w β H w1 β1 H1) (b:Ext w1 β1 H1 w2 β2 H2):Ext w β H w2 β2 H2 where
 beta i hi:=(b.beta i (a.len i hi)).trans (a.beta i hi)
 len i hi:=b.len i (a.len i hi)
 size:=Nat.le_trans a.size b.size
 keep k hk hn:=by
  obtain ⟨h1,h2⟩:=a.keep k hk hn
  obtain ⟨h3,h4⟩:=b.keep k (Nat.lt_of_lt_of_le hk a.size) h1
  exact ⟨h3,h4.trans h2⟩
 rows k hk:=(b.rows k (Nat.lt_of_lt_of_le hk a.size)).trans (a.rows k hk)
 os:=b.os.trans a.os
 tape:=b.tape.trans a.tape
 output:=b.output.trans a.output
theorem Ext.to {w w':World} {β β':Nat→Nat} {H H':Hp} (h:Ext w β H w' β' H') (base:Nat→Prop):(cx base w β H).To (cx base w' β' H') where
 beta:=h.beta
 nb:=h.len
 keep k hk hn:=by
  have h1:¬ base k:=fun e => hn (.inl e)
  have h2:¬ wr β H k:=fun e => hn (.inr e)
  obtain ⟨h3,h4⟩:=h.keep k hk h2
  exact ⟨fun e => e.elim h1 h3,h4⟩
 rows:=h.rows
theorem HRel.of_heap {base:Nat→Prop} {w w':World} {β:Nat→Nat} {H:Hp} (h:HRel base w β H) (he:w'.heap=w.heap):HRel base w' β H:=by
 have hto:(cx base w β H).To (cx base w' β H):=⟨fun _ _ => rfl,fun _ h => h,fun k _ hn => ⟨hn,by show w'.heap[k]?=w.heap[k]?; rw [he]⟩,fun k _ => sZ (by show w'.heap[k]?=w.heap[k]?; rw [he])⟩
 refine ⟨fun i bx hb => ?_,h.inj,h.nbase,fun k hk => by rw [he]; exact h.bsize k hk,fun i es hi => ?_,h.minj⟩
 ·obtain ⟨vs,rest,fr,h1,h2,h3⟩:=h.cells i bx hb
  exact ⟨vs,rest,fr,by rw [he]; exact h1,h2,h3.to hto⟩
 ·obtain ⟨ents,clock,h1,h2,h3⟩:=h.maps i es hi
  exact ⟨ents,clock,by rw [he]; exact h1,h2.to hto,h3⟩
theorem lt_of_getElem? {α:Type} {l:List α} {i:Nat} {x:α} (h:l[i]?=some x):i<l.length:=(List.getElem?_eq_some_iff.1 h).1
def upd (β:Nat→Nat) (i g:Nat):Nat→Nat:=fun j => if j=i then g else β j
theorem vE (β:Nat→Nat) (i g:Nat):upd β i g i=g:=by simp [upd]
theorem xO (β:Nat→Nat) {i g j:Nat} (h:j≠i):upd β i g j=β j:=by simp [upd,h]
theorem HRel.lt {base:Nat→Prop} {w:World} {β:Nat→Nat} {H:Hp} (h:HRel base w β H) {i:Nat} {bx:Box} (hb:H[i]?=some (.live bx)):β i<w.heap.size:=by
 obtain ⟨vs,rest,fr,h1,_⟩:=h.cells i bx hb
 exact (Array.getElem?_eq_some_iff.1 h1).1
theorem HRel.mlt {base:Nat→Prop} {w:World} {β:Nat→Nat} {H:Hp} (h:HRel base w β H) {i:Nat} {es:List (Int × C)} (hb:H[i]?=some (.mp es)):β i<w.heap.size:=by
 obtain ⟨ents,clock,h1,_⟩:=h.maps i es hb
 exact (Array.getElem?_eq_some_iff.1 h1).1
theorem HRel.apart {base:Nat→Prop} {w:World} {β:Nat→Nat} {H:Hp} (h:HRel base w β H) {i j:Nat} {es:List (Int × C)} {bx:Box} (hi:H[i]?=some (.mp es)) (hj:H[j]?=some (.live bx)):β i≠β j:=by
 intro e
 obtain ⟨ents,clock,h1,_⟩:=h.maps i es hi
 obtain ⟨vs,rest,fr,h2,_⟩:=h.cells j bx hj
 rw [e,h2] at h1
 cases h1
theorem mp_append {H X:Hp} {i:Nat} {es:List (Int × C)} (hX:∀ j:Nat,X[j]?≠some (.mp es)) (h:(H++X)[i]?=some (.mp es)):H[i]?=some (.mp es):=by
 rcases Nat.lt_or_ge i H.length with hlt | hge
 ·rwa [List.getElem?_append_left hlt] at h
 ·rw [List.getElem?_append_right hge] at h
  exact absurd h (hX _)
theorem jE {H:Hp} {i j:Nat} {o:Slot} {es:List (Int × C)} (ho:o≠.mp es) (h:(H.set i o)[j]?=some (.mp es)):i≠j∧H[j]?=some (.mp es):=by
 by_cases hij:i=j
 ·subst hij
  have hlt:=lt_of_getElem? h
  rw [List.length_set] at hlt
  rw [List.getElem?_set_self hlt] at h
  exact absurd (by simpa using h) ho
 ·rw [List.getElem?_set_ne hij] at h
  exact ⟨hij,h⟩
theorem born_lt {H:Hp} {i:Nat} (h:born H i):i<H.length:=by
 obtain ⟨s,hs,_⟩:=h
 exact lt_of_getElem? hs
theorem born_append {H:Hp} {i:Nat} (l:Hp) (h:born H i):born (H++l) i:=by
 obtain ⟨s,hs,hn⟩:=h
 exact ⟨s,by rw [List.getElem?_append_left (lt_of_getElem? hs)]; exact hs,hn⟩
theorem born_set {H:Hp} {i j:Nat} {s:Slot} (hs:s≠.unb) (h:born H i):born (H.set j s) i:=by
 obtain ⟨q,hq,hn⟩:=h
 by_cases hij:j=i
 ·subst hij
  exact ⟨s,by rw [List.getElem?_set_self (lt_of_getElem? hq)],hs⟩
 ·exact ⟨q,by rw [List.getElem?_set_ne hij]; exact hq,hn⟩
theorem born_last (H:Hp) (bx:Box):born (H++[.live bx]) H.length:=⟨.live bx,by simp,fun e => by cases e⟩
theorem born_at {H:Hp} {i:Nat} (h:i<H.length) (bx:Box):born (H.set i (.live bx)) i:=⟨.live bx,by rw [List.getElem?_set_self h],fun e => by cases e⟩
theorem HRel.reserve {base:Nat→Prop} {w:World} {β:Nat→Nat} {H:Hp} (h:HRel base w β H) (n:Nat):HRel base w β (H++List.replicate n .unb)∧Ext w β H w β (H++List.replicate n .unb):=by
 have key:∀ (i:Nat) (bx:Box),(H++List.replicate n Slot.unb)[i]?=some (.live bx)→H[i]?=some (.live bx):=by
  intro i bx hi
  rcases Nat.lt_or_ge i H.length with hlt | hge
  ·rwa [List.getElem?_append_left hlt] at hi
  ·rw [List.getElem?_append_right hge,List.getElem?_replicate] at hi
   split at hi <;> cases hi
 have mkey:∀ (i:Nat) (es:List (Int × C)),(H++List.replicate n Slot.unb)[i]?=some (.mp es)→H[i]?=some (.mp es):=fun i es hi => mp_append (fun j hj => by
  rw [List.getElem?_replicate] at hj
  split at hj <;> cases hj) hi
 have hwr:∀ k,wr β (H++List.replicate n .unb) k→wr β H k:=by
  rintro k (⟨i,bx,hi,hr,he⟩ | ⟨i,es,hi,he⟩)
  ·exact .inl ⟨i,bx,key i bx hi,hr,he⟩
  ·exact .inr ⟨i,es,mkey i es hi,he⟩
 have hx:Ext w β H w β (H++List.replicate n .unb):=⟨fun _ _ => rfl,fun i hi => born_append _ hi,Nat.le_refl _,fun k _ hn => ⟨fun e => hn (hwr k e),rfl⟩,fun _ _ => rfl,rfl,rfl,rfl⟩
 refine ⟨⟨fun i bx hi => ?_,fun i j bx bx' hi hj he => h.inj i j bx bx' (key i bx hi) (key j bx' hj) he,fun i bx hi hk => h.nbase i bx (key i bx hi) hk,h.bsize,fun i es hi => ?_,fun i j es es' hi hj he => h.minj i j es es' (mkey i es hi) (mkey j es' hj) he⟩,hx⟩
 rotate_left
 ·obtain ⟨ents,clock,h1,h2,h3⟩:=h.maps i es (mkey i es hi)
  exact ⟨ents,clock,h1,h2.to (hx.to base),h3⟩
 obtain ⟨vs,rest,fr,h1,h2,h3⟩:=h.cells i bx (key i bx hi)
 exact ⟨vs,rest,fr,h1,h2,h3.to (hx.to base)⟩
theorem ext_allocAt {base:Nat→Prop} {w:World} {β:Nat→Nat} {H:Hp} (h:HRel base w β H) (o:Obj) {i:Nat} (hi:H[i]?=some .unb) (bx:Box):Ext w β H (w.alloc o) (upd β i w.heap.size) (H.set i (.live bx)) where
 beta j hj:=by
  refine xO β (fun e => ?_)
  subst e
  obtain ⟨s,hs,hn⟩:=hj
  rw [hi] at hs
  cases hs
  exact hn rfl
 len j hj:=born_set (fun e => by cases e) hj
 size:=by simp
 keep k hk hn:=by
  refine ⟨?_,heap_alloc_old w o k hk⟩
  rintro (⟨j,b,hj,hrw,he⟩ | ⟨j,es,hj,he⟩)
  ·by_cases hij:i=j
   ·subst hij
    rw [vE] at he
    omega
   ·rw [List.getElem?_set_ne hij] at hj
    rw [xO β (Ne.symm hij)] at he
    exact hn (.inl ⟨j,b,hj,hrw,he⟩)
  ·obtain ⟨hij,hj⟩:=jE (fun e => by cases e) hj
   rw [xO β (Ne.symm hij)] at he
   exact hn (.inr ⟨j,es,hj,he⟩)
 rows k hk:=sZ (heap_alloc_old w o k hk)
 os:=rfl
 tape:=rfl
 output:=rfl
theorem HRel.allocAt {base:Nat→Prop} {w:World} {β:Nat→Nat} {H:Hp} (h:HRel base w β H) {i:Nat} (hi:H[i]?=some .unb) {cs:List C} {vs:List Value} (hr:RL (cx base w β H) cs vs) (elem:TypeId) (rest:List Value) :
  HRel base (w.alloc (.cells (vs++rest).toArray elem (0,0))) (upd β i w.heap.size) (H.set i (.live ⟨cs,elem,.rw⟩)):=by
 have hx:=ext_allocAt h (.cells (vs++rest).toArray elem (0,0)) hi ⟨cs,elem,.rw⟩
 have hlt:=lt_of_getElem? hi
 have key:∀ (j:Nat) (b:Box),(H.set i (Slot.live ⟨cs,elem,.rw⟩))[j]?=some (.live b)→(j≠i∧H[j]?=some (.live b))∨(j=i∧b=⟨cs,elem,.rw⟩):=by
  intro j b hj
  by_cases hij:i=j
  ·subst hij
   rw [List.getElem?_set_self hlt] at hj
   simp at hj
   exact .inr ⟨rfl,hj.symm⟩
  ·rw [List.getElem?_set_ne hij] at hj
   exact .inl ⟨Ne.symm hij,hj⟩
 refine ⟨fun j b hj => ?_,fun p q bx bx' hp hq he => ?_,fun j b hj hk => ?_,fun k hk => by have:=h.bsize k hk; simp; omega,fun j es hj => ?_,fun p q es es' hp hq he => ?_⟩
 rotate_right 2
 ·obtain ⟨hne,hj⟩:=jE (fun e => by cases e) hj
  obtain ⟨ents,clock,h1,h2,h3⟩:=h.maps j es hj
  rw [xO β (Ne.symm hne)]
  exact ⟨ents,clock,by rw [heap_alloc_old w _ _ (h.mlt hj)]; exact h1,h2.to (hx.to base),h3⟩
 ·obtain ⟨hne,hp⟩:=jE (fun e => by cases e) hp
  obtain ⟨hne',hq⟩:=jE (fun e => by cases e) hq
  rw [xO β (Ne.symm hne),xO β (Ne.symm hne')] at he
  exact h.minj p q es es' hp hq he
 ·rcases key j b hj with ⟨hne,hb⟩ | ⟨rfl,rfl⟩
  ·obtain ⟨us,rest',fr,h1,h2,h3⟩:=h.cells j b hb
   refine ⟨us,rest',fr,?_,h2,h3.to (hx.to base)⟩
   rw [xO β hne,heap_alloc_old w _ _ (h.lt hb)]
   exact h1
  ·exact ⟨vs,rest,(0,0),by rw [vE]; exact heap_alloc_new w _,fun _ => rfl,hr.to (hx.to base)⟩
 ·rcases key p bx hp with ⟨hne,hb⟩ | ⟨rfl,rfl⟩ <;> rcases key q bx' hq with ⟨hne',hb'⟩ | ⟨rfl,rfl⟩
  ·rw [xO β hne,xO β hne'] at he
   exact h.inj p q bx bx' hb hb' he
  ·rw [xO β hne,vE] at he
   have:=h.lt hb
   omega
  ·rw [vE,xO β hne'] at he
   have:=h.lt hb'
   omega
  ·rfl
 ·rcases key j b hj with ⟨hne,hb⟩ | ⟨rfl,rfl⟩
  ·rw [xO β hne]
   exact h.nbase j b hb hk
  ·rw [vE]
   intro hb
   have:=h.bsize _ hb
   omega
theorem set_append_last (H:Hp) (s:Slot):(H++List.replicate 1 Slot.unb).set H.length s=H++[s]:=by simp
theorem ext_alloc {base:Nat→Prop} {w:World} {β:Nat→Nat} {H:Hp} (h:HRel base w β H) (o:Obj) (bx:Box):Ext w β H (w.alloc o) (upd β H.length w.heap.size) (H++[.live bx]):=by
 obtain ⟨h1,h2⟩:=h.reserve 1
 have h3:=ext_allocAt h1 o (i:=H.length) (by simp) bx
 rw [set_append_last] at h3
 exact h2.trans h3
theorem HRel.alloc {base:Nat→Prop} {w:World} {β:Nat→Nat} {H:Hp} (h:HRel base w β H) {cs:List C} {vs:List Value} (hr:RL (cx base w β H) cs vs) (elem:TypeId) (rest:List Value) :
  HRel base (w.alloc (.cells (vs++rest).toArray elem (0,0))) (upd β H.length w.heap.size) (H++[.live ⟨cs,elem,.rw⟩]):=by
 obtain ⟨h1,h2⟩:=h.reserve 1
 have h3:=h1.allocAt (i:=H.length) (by simp) (hr.to (h2.to base)) elem rest
 rwa [set_append_last] at h3
def splice (cs:List C) (off:Nat) (ds:List C):List C:=cs.take off++ds++cs.drop (off+ds.length)
def uM (cs:List Value) (off:Nat) (ds:List Value):List Value:=cs.take off++ds++cs.drop (off+ds.length)
theorem RL.splice {x:Cx} {cs ds:List C} {vs us:List Value} (h:RL x cs vs) (k:RL x ds us) (off:Nat):RL x (splice cs off ds) (uM vs off us):=by
 unfold Proofs.Ytokckcnfojjpjaa.splice uM
 rw [k.len]
 exact ((h.take off).append k).append (h.drop _)
theorem wr_set_rw {β:Nat→Nat} {H:Hp} {i:Nat} {bx bx':Box} (hb:H[i]?=some (.live bx)) (hk:bx.kind=bx'.kind) (k:Nat):wr β (H.set i (.live bx')) k↔wr β H k:=by
 have hlt:=lt_of_getElem? hb
 constructor
 ·rintro (⟨j,b,hj,hr,he⟩ | ⟨j,es,hj,he⟩)
  ·by_cases hij:i=j
   ·subst hij
    rw [List.getElem?_set_self hlt] at hj
    simp at hj
    subst hj
    exact .inl ⟨i,bx,hb,by rw [hk]; exact hr,he⟩
   ·rw [List.getElem?_set_ne hij] at hj
    exact .inl ⟨j,b,hj,hr,he⟩
  ·exact .inr ⟨j,es,(jE (fun e => by cases e) hj).2,he⟩
 ·rintro (⟨j,b,hj,hr,he⟩ | ⟨j,es,hj,he⟩)
  ·by_cases hij:i=j
   ·subst hij
    rw [hb] at hj
    simp at hj
    subst hj
    exact .inl ⟨i,bx',by rw [List.getElem?_set_self hlt],by rw [←hk]; exact hr,he⟩
   ·exact .inl ⟨j,b,by rw [List.getElem?_set_ne hij]; exact hj,hr,he⟩
  ·have hij:i≠j:=fun e => by subst e; rw [hb] at hj; cases hj
   exact .inr ⟨j,es,by rw [List.getElem?_set_ne hij]; exact hj,he⟩
theorem ext_set {base:Nat→Prop} {w:World} {β:Nat→Nat} {H:Hp} {i:Nat} {bx:Box} (h:HRel base w β H) (hb:H[i]?=some (.live bx)) (hk:bx.kind=.rw) (cs:List C) (us:List Value) (hs:uG w (β i)=some us.length) :
  Ext w β H (w.setRow (β i) us.toArray) β (H.set i (.live { bx with cells:=cs })) where
 beta _ _:=rfl
 len i hi:=born_set (fun e => by cases e) hi
 size:=by simp
 keep k hlt hn:=by
  refine ⟨fun hh => hn ((wr_set_rw hb (by rfl) k).1 hh),setRow_other w _ _ _ fun e => hn (.inl ⟨i,bx,hb,hk,e.symm⟩)⟩
 rows k _:=by
  by_cases e:k=β i
  ·subst e
   obtain ⟨vs,rest,fr,h1,_⟩:=h.cells i bx hb
   rw [vP (setRow_heap w _ _ _ _ _ h1),hs]
   simp
  ·exact sZ (setRow_other w _ _ _ e)
 os:=rfl
 tape:=rfl
 output:=rfl
theorem HRel.set {base:Nat→Prop} {w:World} {β:Nat→Nat} {H:Hp} {i:Nat} {bx:Box} (h:HRel base w β H) (hb:H[i]?=some (.live bx)) (hk:bx.kind=.rw) {cs:List C} {us rest:List Value} (hr:RL (cx base w β H) cs us) (hs:uG w (β i)=some (us++rest).length) :
  HRel base (w.setRow (β i) (us++rest).toArray) β (H.set i (.live { bx with cells:=cs })):=by
 have hx:=ext_set h hb hk cs (us++rest) hs
 have hlt:=lt_of_getElem? hb
 obtain ⟨vs0,rest0,fr0,g1,g2,_⟩:=h.cells i bx hb
 have key:∀ (j:Nat) (b:Box),(H.set i (.live { bx with cells:=cs }))[j]?=some (.live b)→(j≠i∧H[j]?=some (.live b))∨(j=i∧b={ bx with cells:=cs }):=by
  intro j b hj
  by_cases hij:j=i
  ·subst hij
   rw [List.getElem?_set_self hlt] at hj
   simp at hj
   exact .inr ⟨rfl,hj.symm⟩
  ·rw [List.getElem?_set_ne (Ne.symm hij)] at hj
   exact .inl ⟨hij,hj⟩
 refine ⟨fun j b hj => ?_,fun a c ba bc ha hc he => ?_,fun j b hj hkk => ?_,fun k hkk => by have:=h.bsize k hkk; simp; exact this,fun j es hj => ?_,fun p q es es' hp hq he => h.minj p q es es' (jE (fun e => by cases e) hp).2 (jE (fun e => by cases e) hq).2 he⟩
 rotate_right 1
 ·obtain ⟨hne,hj⟩:=jE (fun e => by cases e) hj
  obtain ⟨ents,clock,h1,h2,h3⟩:=h.maps j es hj
  exact ⟨ents,clock,by rw [setRow_other w _ _ _ (h.apart hj hb)]; exact h1,h2.to (hx.to base),h3⟩
 ·rcases key j b hj with ⟨hne,hjb⟩ | ⟨rfl,rfl⟩
  ·obtain ⟨vs,rest',fr,h1,h2,h3⟩:=h.cells j b hjb
   refine ⟨vs,rest',fr,?_,h2,h3.to (hx.to base)⟩
   rw [setRow_other w _ _ _ (fun e => hne (h.inj j i b bx hjb hb e))]
   exact h1
  ·exact ⟨us,rest,fr0,setRow_heap w _ _ _ _ _ g1,g2,hr.to (hx.to base)⟩
 ·have e1:∃ b,H[a]?=some (.live b):=by
   rcases key a ba ha with ⟨_,hh⟩ | ⟨rfl,_⟩
   ·exact ⟨_,hh⟩
   ·exact ⟨_,hb⟩
  have e2:∃ b,H[c]?=some (.live b):=by
   rcases key c bc hc with ⟨_,hh⟩ | ⟨rfl,_⟩
   ·exact ⟨_,hh⟩
   ·exact ⟨_,hb⟩
  obtain ⟨b1,e1⟩:=e1
  obtain ⟨b2,e2⟩:=e2
  exact h.inj a c b1 b2 e1 e2 he
 ·rcases key j b hj with ⟨_,hjb⟩ | ⟨rfl,rfl⟩
  ·exact h.nbase j b hjb hkk
  ·exact h.nbase j bx hb hkk
theorem HRel.strike {base:Nat→Prop} {w:World} {β:Nat→Nat} {H:Hp} (h:HRel base w β H) {i:Nat} {o:Slot} (hou:o≠.unb) (ho:∀ b,o=.live b→∃ bx,H[i]?=some (.live bx)∧bx.kind≠.bor∧b={ bx with kind:=.ro }) (hom:∀ es,o≠.mp es) :
  HRel base w β (H.set i o)∧Ext w β H w β (H.set i o):=by
 have hsub:∀ (j:Nat) (b:Box),(H.set i o)[j]?=some (.live b)→∃ bx:Box,H[j]?=some (.live bx)∧bx.cells=b.cells∧bx.elem=b.elem∧(b.kind=.rw→bx.kind=.rw)∧(b.kind≠.bor→bx.kind≠.bor)∧(bx.kind≠.bor→b.kind≠.bor):=by
  intro j b hj
  by_cases hij:i=j
  ·subst hij
   have hlt:=lt_of_getElem? hj
   rw [List.length_set] at hlt
   rw [List.getElem?_set_self hlt] at hj
   have hj':o=.live b:=by simpa using hj
   obtain ⟨bx,h1,h2,rfl⟩:=ho b hj'
   exact ⟨bx,h1,rfl,rfl,fun e => (by cases e),fun _ => h2,fun _ e => (by cases e)⟩
  ·rw [List.getElem?_set_ne hij] at hj
   exact ⟨b,hj,rfl,rfl,id,id,id⟩
 have hwr:∀ k,wr β (H.set i o) k→wr β H k:=by
  rintro k (⟨j,b,hj,hr,he⟩ | ⟨j,es,hj,he⟩)
  ·obtain ⟨bx,h1,_,_,h4,_⟩:=hsub j b hj
   exact .inl ⟨j,bx,h1,h4 hr,he⟩
  ·exact .inr ⟨j,es,(jE (hom es) hj).2,he⟩
 have hx:Ext w β H w β (H.set i o):=⟨fun _ _ => rfl,fun j hj => born_set hou hj,Nat.le_refl _,fun k _ hn => ⟨fun e => hn (hwr k e),rfl⟩,fun _ _ => rfl,rfl,rfl,rfl⟩
 refine ⟨⟨fun j b hj => ?_,fun a c ba bc ha hc he => ?_,fun j b hj hk => ?_,h.bsize,fun j es hj => ?_,fun p q es es' hp hq he => h.minj p q es es' (jE (hom es) hp).2 (jE (hom es') hq).2 he⟩,hx⟩
 rotate_right 1
 ·obtain ⟨hne,hj⟩:=jE (hom es) hj
  obtain ⟨ents,clock,h1,h2,h3⟩:=h.maps j es hj
  exact ⟨ents,clock,h1,h2.to (hx.to base),h3⟩
 ·obtain ⟨bx,h1,h2,h3,h4,h5,h6⟩:=hsub j b hj
  obtain ⟨vs,rest,fr,g1,g2,g3⟩:=h.cells j bx h1
  exact ⟨vs,rest,fr,by rw [←h3]; exact g1,fun e => g2 (h5 e),by rw [←h2]; exact g3.to (hx.to base)⟩
 ·obtain ⟨b1,e1,_⟩:=hsub a ba ha
  obtain ⟨b2,e2,_⟩:=hsub c bc hc
  exact h.inj a c b1 b2 e1 e2 he
 ·obtain ⟨bx,h1,_,_,_,h5,_⟩:=hsub j b hj
  exact h.nbase j bx h1 (h5 hk)
theorem HRel.move {base:Nat→Prop} {w:World} {β:Nat→Nat} {H:Hp} (h:HRel base w β H) {b:Nat} {bx:Box} (hb:H[b]?=some (.live bx)) (hk:bx.kind≠.bor) :
  HRel base w (upd β H.length (β b)) (H.set b .dead++[.live bx])∧Ext w β H w (upd β H.length (β b)) (H.set b .dead++[.live bx]):=by
 have hblt:=lt_of_getElem? hb
 have key:∀ (i:Nat) (q:Box),(H.set b .dead++[.live bx])[i]?=some (.live q)→(i≠b∧i<H.length∧H[i]?=some (.live q))∨(i=H.length∧q=bx):=by
  intro i q hi
  rcases Nat.lt_or_ge i H.length with hlt | hge
  ·rw [List.getElem?_append_left (by simpa using hlt)] at hi
   by_cases hib:i=b
   ·subst hib
    rw [List.getElem?_set_self hlt] at hi
    simp at hi
   ·rw [List.getElem?_set_ne (Ne.symm hib)] at hi
    exact .inl ⟨hib,hlt,hi⟩
  ·have hlen:=lt_of_getElem? hi
   simp at hlen
   have:i=H.length:=by omega
   subst this
   rw [List.getElem?_append_right (by simp)] at hi
   simp at hi
   exact .inr ⟨rfl,hi.symm⟩
 have mkey:∀ (i:Nat) (es:List (Int × C)),(H.set b .dead++[.live bx])[i]?=some (.mp es)→H[i]?=some (.mp es):=fun i es hi => (jE (fun e => by cases e) (mp_append (fun j hj => by
  cases j with
  | zero => simp at hj
  | succ j => simp at hj) hi)).2
 have hwr:∀ k,wr (upd β H.length (β b)) (H.set b .dead++[.live bx]) k→wr β H k:=by
  rintro k (⟨i,q,hi,hr,he⟩ | ⟨i,es,hi,he⟩)
  ·rcases key i q hi with ⟨_,hlt,hq⟩ | ⟨rfl,rfl⟩
   ·rw [xO β (by omega)] at he
    exact .inl ⟨i,q,hq,hr,he⟩
   ·rw [vE] at he
    exact .inl ⟨b,q,hb,hr,he⟩
  ·have hm:=mkey i es hi
   rw [xO β (by have:=lt_of_getElem? hm; omega)] at he
   exact .inr ⟨i,es,hm,he⟩
 have hx:Ext w β H w (upd β H.length (β b)) (H.set b .dead++[.live bx]):=⟨fun i hi => xO β (by have:=born_lt hi; omega),fun i hi => born_append _ (born_set (fun e => by cases e) hi),Nat.le_refl _,fun k _ hn => ⟨fun e => hn (hwr k e),rfl⟩,fun _ _ => rfl,rfl,rfl,rfl⟩
 refine ⟨⟨fun i q hi => ?_,fun i j q q' hi hj he => ?_,fun i q hi hkq => ?_,h.bsize,fun i es hi => ?_,fun i j es es' hi hj he => ?_⟩,hx⟩
 rotate_right 2
 ·have hm:=mkey i es hi
  obtain ⟨ents,clock,h1,h2,h3⟩:=h.maps i es hm
  rw [xO β (by have:=lt_of_getElem? hm; omega)]
  exact ⟨ents,clock,h1,h2.to (hx.to base),h3⟩
 ·have hm:=mkey i es hi
  have hm':=mkey j es' hj
  rw [xO β (by have:=lt_of_getElem? hm; omega),xO β (by have:=lt_of_getElem? hm'; omega)] at he
  exact h.minj i j es es' hm hm' he
 ·rcases key i q hi with ⟨_,hlt,hq⟩ | ⟨rfl,rfl⟩
  ·obtain ⟨vs,rest,fr,g1,g2,g3⟩:=h.cells i q hq
   exact ⟨vs,rest,fr,by rw [xO β (by omega)]; exact g1,g2,g3.to (hx.to base)⟩
  ·obtain ⟨vs,rest,fr,g1,g2,g3⟩:=h.cells b q hb
   exact ⟨vs,rest,fr,by rw [vE]; exact g1,g2,g3.to (hx.to base)⟩
 ·rcases key i q hi with ⟨hib,hlt,hq⟩ | ⟨rfl,rfl⟩ <;> rcases key j q' hj with ⟨hjb,hlt',hq'⟩ | ⟨rfl,rfl⟩
  ·rw [xO β (by omega),xO β (by omega)] at he
   exact h.inj i j q q' hq hq' he
  ·rw [xO β (by omega),vE] at he
   exact absurd (h.inj i b q q' hq hb he) hib
  ·rw [vE,xO β (by omega)] at he
   exact absurd (h.inj j b q' q hq' hb he.symm) hjb
  ·rfl
 ·rcases key i q hi with ⟨_,hlt,hq⟩ | ⟨rfl,rfl⟩
  ·rw [xO β (by omega)]
   exact h.nbase i q hq hkq
  ·rw [vE]
   exact h.nbase b q hb hkq
end Go.Proofs.Ytokckcnfojjpjaa
