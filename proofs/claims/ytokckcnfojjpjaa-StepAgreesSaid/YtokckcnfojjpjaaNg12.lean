/-
  Parts of the proof: Code and functions are sound.
-/
import Derived.Test.YtokckcnfojjpjaaNg11
set_option linter.unusedVariables false
set_option linter.unusedSimpArgs false
namespace Go.Proofs.Ytokckcnfojjpjaa
open Go.RowKit
section
variable {P:Program} {base:Nat→Prop} {N:Nat} {D:List Deferred}
theorem least_of {p:Nat→Prop} (h:∃ n,p n):∃ n,p n∧∀ m,p m→n≤m:=by
 obtain ⟨n,hn⟩:=h
 induction n using Nat.strongRecOn with
 | _ n ih =>
  by_cases hm:∃ m,m<n∧p m
  ·obtain ⟨m,hlt,hp⟩:=hm
   exact ih m hlt hp
  ·exact ⟨n,hn,fun m hp => by
    rcases Nat.lt_or_ge m n with hlt | hge
    ·exact absurd ⟨m,hlt,hp⟩ hm
    ·exact hge⟩
open Classical in
theorem wp_loop_ix {c:Code} {Q:Exit→Act→World→Prop} {a:Act} {w:World} (J:Nat→Act→World→Prop) (h0:∃ n,J n a w)
  (round:∀ n a w,J n a w→c.wp P (Exit.then (fun a' w' => ∃ n',n'<n∧J n' a' w') Q) a w):(Code.loop c).wp P Q a w:=by
 have key:∀ a w,(∃ n,J n a w)→∃ n,J n a w∧∀ m,J m a w→n≤m:=fun a w h => least_of h
 refine wp_loop (fun a w => ∃ n,J n a w) (fun a w => if h:∃ n,J n a w then Classical.choose (key a w h) else 0) h0 fun a w hI => ?_
 obtain ⟨hm,hle⟩:=Classical.choose_spec (key a w hI)
 refine wp_mono (round _ a w hm) fun e a' w' hq => ?_
 cases e with
 | normal =>
  obtain ⟨n',hlt,hJ⟩:=hq
  refine ⟨⟨n',hJ⟩,?_⟩
  have hI':∃ n,J n a' w':=⟨n',hJ⟩
  obtain ⟨_,hle'⟩:=Classical.choose_spec (key a' w' hI')
  simp only [dif_pos hI,dif_pos hI']
  exact Nat.lt_of_le_of_lt (hle' n' hJ) hlt
 | exit id => exact hq
 | goto l => exact hq
 | ret => exact hq
 | panic c => exact hq
 | outgrown => exact hq
def CPost (base:Nat→Prop) (N:Nat) (D:List Deferred) (w:World) (β:Nat→Nat) (H:Hp) (Q:Ex→St→Prop) (e:Exit) (a':Act) (w':World):Prop :=
 ∃ ae st' β',ERel e ae∧CRel base N D st' a' w' β'∧Ext w β H w' β' st'.H∧Q ae st'
theorem envL_sub:∀ {L:List Nat} {e:Env} {vs:List V},getL L e=some vs→∀ t v,envL L vs t=some v→e t=some v
 | [],e,vs,h,t,v,hv => by simp [envL] at hv
 | s :: r,e,vs,h,t,v,hv => by
  unfold getL at h
  split at h
  ·rename_i u hu
   split at h
   ·rename_i us hus
    simp at h
    subst h
    by_cases hst:s=t
    ·subst hst
     have:some u=some v:=by
      have h1:put (envL r us) s u s=some v:=hv
      simpa [put] using h1
     rw [←this]
     exact hu
    ·have h1:put (envL r us) s u t=some v:=hv
     rw [put_ne hst] at h1
     exact envL_sub hus t v h1
   ·cases h
  ·cases h
theorem nodup_le:∀ (n:Nat) (l:List Nat),l.Nodup→(∀ i∈l,i<n)→l.length≤n
 | 0,l,_,h => by
  cases l with
  | nil => simp
  | cons i r => exact absurd (h i (by simp)) (by omega)
 | n+1,l,hn,h => by
  have h1:=nodup_le n (l.erase n) (hn.erase n) fun i hi => by
   have h2:=h i (List.mem_of_mem_erase hi)
   have h3:i≠n:=fun e => by
    subst e
    exact (List.Nodup.not_mem_erase hn) hi
   omega
  have h4:=List.length_erase (a:=n) (l:=l)
  split at h4 <;> omega
theorem qL {ops:Array Oper} {ac:yV} (h:compD P N ops=some ac):∃ n ds,ac=.regD n ds:=by
 unfold compD at h
 split at h
 ·unfold compDs at h
  split at h
  ·exact ⟨_,_,(Option.some.inj h).symm⟩
  ·cases h
 ·cases h
theorem awp_sound:∀ (ac:yV) (c:Code),sB P N c=some ac.erase→∀ (Q:Ex→St→Prop) (st:St) (a:Act) (w:World) (β:Nat→Nat),CRel base N D st a w β→awp P ac Q st→c.wp P (CPost base N D w β st.H Q) a w:=by
 intro ac
 induction ac with
 | skip =>
  intro c hc Q st a w β hr h
  cases c <;> simp only [sB,yV.erase] at hc
  case skip => exact wp_skip ⟨.normal,st,β,trivial,hr,Ext.refl _ _ _,h⟩
  case region id ops d =>
   exfalso
   cases d <;> simp only [sB] at hc
   ·simp only [Option.map_eq_some_iff] at hc
    obtain ⟨ys,hy,he⟩:=hc
    cases he
   ·obtain ⟨n,ds,he⟩:=qL hc
    cases he
  all_goals (exfalso; first | (simp at hc; done) | (split at hc <;> simp at hc; done) | (simp only [Option.map_eq_some_iff] at hc; obtain ⟨_,_,hc⟩:=hc; cases hc))
 | reg xs =>
  intro c hc Q st a w β hr h
  cases c <;> simp only [sB,yV.erase] at hc
  case region id ops d =>
   cases d <;> simp only [sB] at hc
   ·simp only [Option.map_eq_some_iff] at hc
    obtain ⟨ys,hy,he⟩:=hc
    cases he
    refine wp_region_list (reg_sound (D:=D) ops.toList xs st a w β hy hr (fun a' w' ha => ?_) h)
    obtain ⟨st',β',h1,h2,h3⟩:=ha
    exact ⟨.normal,st',β',trivial,h1,h2,h3⟩
   ·obtain ⟨n,ds,he⟩:=qL hc
    cases he
  all_goals (exfalso; first | (simp at hc; done) | (split at hc <;> simp at hc; done) | (simp only [Option.map_eq_some_iff] at hc; obtain ⟨_,_,hc⟩:=hc; cases hc))
 | regD n ds =>
  intro c hc Q st a w β hr h
  cases c <;> simp only [sB,yV.erase] at hc
  case region id ops d =>
   cases d <;> simp only [sB] at hc
   ·simp only [Option.map_eq_some_iff] at hc
    obtain ⟨ys,hy,he⟩:=hc
    cases he
   ·unfold compD at hc
    split at hc
    ·rename_i xs hm hx
     unfold compDs at hc
     split at hc
     ·rename_i hok
      simp only [Option.some.injEq,yV.regD.injEq] at hc
      obtain ⟨hn,hds⟩:=hc
      simp only [Bool.and_eq_true,List.all_eq_true] at hok
      have hok1:=hok.1
      have hlen:xs.length=ops.size:=Nat.eq_of_beq_eq_true hok.2
      have hk:RegOk P N ops (Region.before ops).toList (sched ops (frzL (Region.before ops).toList xs) (Region.before ops).toList ops.size [] 0 []):=regOk_sound hx hlen (sched_o _ _ _ _ (fun d hd => by cases hd)) hok1
      rw [hds] at hk
      obtain ⟨hp',hx'⟩:=hr.rel.hp.reserve n
      have hr':CRel base N D ⟨st.env,st.H++List.replicate n .unb⟩ a { w with drawn:=w.drawn+1 } β:=by
       refine ⟨⟨hp'.of_heap rfl,fun t v hv => ?_⟩,hr.size,hr.defers⟩
       have ht:Cx.To (cx base w β (st.H++List.replicate n Slot.unb)) (cx base { w with drawn:=w.drawn+1 } β (st.H++List.replicate n Slot.unb)):=⟨fun _ _ => rfl,fun _ h => h,fun k _ hn => ⟨hn,rfl⟩,fun _ _ => rfl⟩
       exact RV.to ht ((hr.rel.env t v hv).to (hx'.to base))
      refine wp_region_any hm (any_sound (D:=D) hk ops.size ds (Array.replicate ops.size false) [] _ a _ β ?_ (by simp) (fun d hd => hd) hk.nodup (fun i hi => ?_) hk.pairs (fun i o ho hl => ?_) hr' (fun a' w' ha => ?_) h)
      ·-- as many as there are operations
       have:(ds.map (·.idx)).length≤ops.size:=nodup_le _ _ hk.nodup fun i hi => by
        obtain ⟨d,hd,rfl⟩:=List.mem_map.1 hi
        obtain ⟨o,_,ho,_⟩:=hk.comp d hd
        exact (Array.getElem?_eq_some_iff.1 ho).1
       simpa using this
      ·constructor
       ·intro _
        exact hk.all i hi
       ·intro _
        simp [hi]
      ·exfalso
       rcases Nat.lt_or_ge i ops.size with hi | hi
       ·simp [hi] at hl
       ·simp [hi] at hl
      ·obtain ⟨st',β',h1,h2,h3⟩:=ha
       refine ⟨.normal,st',β',trivial,h1,hx'.trans ?_,h3⟩
       exact ⟨h2.beta,h2.len,h2.size,h2.keep,h2.rows,h2.os,h2.tape,h2.output⟩
     ·cases hc
    ·cases hc
  all_goals (exfalso; first | (simp at hc; done) | (split at hc <;> simp at hc; done) | (simp only [Option.map_eq_some_iff] at hc; obtain ⟨_,_,hc⟩:=hc; cases hc))
 | seq x y ihx ihy =>
  intro c hc Q st a w β hr h
  cases c <;> simp only [sB,yV.erase] at hc
  case seq a' b' =>
   split at hc
   ·rename_i p q hp hq
    simp only [Option.some.injEq,yV.seq.injEq] at hc
    obtain ⟨rfl,rfl⟩:=hc
    refine wp_seq (wp_mono (ihx a' hp _ st a w β hr h) ?_)
    rintro e a1 w1 ⟨ae,st1,β1,he,h1,h2,h3⟩
    cases e <;> cases ae <;> simp only [ERel] at he
    ·refine wp_mono (ihy b' hq Q st1 a1 w1 β1 h1 h3) ?_
     rintro e a2 w2 ⟨ae,st2,β2,he2,h4,h5,h6⟩
     exact ⟨ae,st2,β2,he2,h4,h2.trans h5,h6⟩
    ·subst he
     exact ⟨.exit _,st1,β1,rfl,h1,h2,h3⟩
    ·exact ⟨.ret,st1,β1,trivial,h1,h2,h3⟩
   ·cases hc
  case region id ops d =>
   exfalso
   cases d <;> simp only [sB] at hc
   ·simp only [Option.map_eq_some_iff] at hc
    obtain ⟨ys,hy,he⟩:=hc
    cases he
   ·obtain ⟨n,ds,he⟩:=qL hc
    cases he
  all_goals (exfalso; first | (simp at hc; done) | (split at hc <;> simp at hc; done) | (simp only [Option.map_eq_some_iff] at hc; obtain ⟨_,_,hc⟩:=hc; cases hc))
 | cond x p q ihp ihq =>
  intro c hc Q st a w β hr h
  cases c <;> simp only [sB,yV.erase] at hc
  case cond c' a' b' =>
   split at hc
   ·rename_i d p' q' hd hp hq
    simp only [Option.some.injEq,yV.cond.injEq] at hc
    obtain ⟨rfl,rfl,rfl⟩:=hc
    unfold awp at h
    split at h
    ·rename_i b hb
     have hev:=((yH hr.rel hd hb).c_inv).bool_inv
     rcases gL h with ⟨rfl,h'⟩ | ⟨rfl,h'⟩
     ·exact wp_cond_true hev (ihp a' hp Q st a w β hr h')
     ·exact wp_cond_false hev (ihq b' hq Q st a w β hr h')
    ·exact h.elim
   ·cases hc
  case region id ops d =>
   exfalso
   cases d <;> simp only [sB] at hc
   ·simp only [Option.map_eq_some_iff] at hc
    obtain ⟨ys,hy,he⟩:=hc
    cases he
   ·obtain ⟨n,ds,he⟩:=qL hc
    cases he
  all_goals (exfalso; first | (simp at hc; done) | (split at hc <;> simp at hc; done) | (simp only [Option.map_eq_some_iff] at hc; obtain ⟨_,_,hc⟩:=hc; cases hc))
 | block i x ih =>
  intro c hc Q st a w β hr h
  cases c <;> simp only [sB,yV.erase] at hc
  case block id b' =>
   simp only [Option.map_eq_some_iff] at hc
   obtain ⟨x',hx,he⟩:=hc
   simp only [yV.block.injEq] at he
   obtain ⟨rfl,rfl⟩:=he
   refine wp_block (wp_mono (ih b' hx _ st a w β hr h) ?_)
   rintro e a1 w1 ⟨ae,st1,β1,he,h1,h2,h3⟩
   cases e <;> cases ae <;> simp only [ERel] at he
   ·exact ⟨.normal,st1,β1,trivial,h1,h2,h3⟩
   ·subst he
    rename_i j
    simp only at h3
    show if j=id then CPost base N D w β st.H Q .normal a1 w1 else CPost base N D w β st.H Q (.exit j) a1 w1
    by_cases hj:j=id
    ·subst hj
     rw [if_pos rfl]
     rw [Nat.beq_refl] at h3
     exact ⟨.normal,st1,β1,trivial,h1,h2,h3⟩
    ·rw [if_neg hj]
     have:Nat.beq j id=false:=by
      cases hb:Nat.beq j id with
      | false => rfl
      | true => exact absurd (Nat.eq_of_beq_eq_true hb) hj
     rw [this] at h3
     exact ⟨.exit j,st1,β1,rfl,h1,h2,h3⟩
   ·exact ⟨.ret,st1,β1,trivial,h1,h2,h3⟩
  case region id ops d =>
   exfalso
   cases d <;> simp only [sB] at hc
   ·simp only [Option.map_eq_some_iff] at hc
    obtain ⟨ys,hy,he⟩:=hc
    cases he
   ·obtain ⟨n,ds,he⟩:=qL hc
    cases he
  all_goals (exfalso; first | (simp at hc; done) | (split at hc <;> simp at hc; done) | (simp only [Option.map_eq_some_iff] at hc; obtain ⟨_,_,hc⟩:=hc; cases hc))
 | loop L x ih =>
  intro c hc Q st a w β hr h
  cases c <;> simp only [sB,yV.erase] at hc
  case loop b' =>
   simp only [Option.map_eq_some_iff] at hc
   obtain ⟨x',hx,he⟩:=hc
   simp only [yV.loop.injEq,true_and] at he
   subst he
   obtain ⟨I,⟨n,vs,hg,hI⟩,hround⟩:=h
   refine wp_loop_ix (fun n a' w' => ∃ vs H' β',CRel base N D ⟨envL L vs,H'⟩ a' w' β'∧Ext w β st.H w' β' H'∧I n vs H') ⟨n,vs,st.H,β,⟨⟨hr.rel.hp,fun t v hv => hr.rel.env t v (envL_sub hg t v hv)⟩,hr.size,hr.defers⟩,Ext.refl _ _ _,hI⟩ ?_
   rintro n a' w' ⟨vs,H',β',h1,h2,h3⟩
   refine wp_mono (ih b' hx _ ⟨envL L vs,H'⟩ a' w' β' h1 (hround n vs H' h3)) ?_
   rintro e a1 w1 ⟨ae,st1,β1,he,k1,k2,k3⟩
   cases e <;> cases ae <;> simp only [ERel] at he
   ·obtain ⟨n',vs',hg',hlt,hI'⟩:=k3
    exact ⟨n',hlt,vs',st1.H,β1,⟨⟨k1.rel.hp,fun t v hv => k1.rel.env t v (envL_sub hg' t v hv)⟩,k1.size,k1.defers⟩,h2.trans k2,hI'⟩
   ·subst he
    exact ⟨.exit _,st1,β1,rfl,k1,h2.trans k2,k3⟩
   ·exact ⟨.ret,st1,β1,trivial,k1,h2.trans k2,k3⟩
  case region id ops d =>
   exfalso
   cases d <;> simp only [sB] at hc
   ·simp only [Option.map_eq_some_iff] at hc
    obtain ⟨ys,hy,he⟩:=hc
    cases he
   ·obtain ⟨n,ds,he⟩:=qL hc
    cases he
  all_goals (exfalso; first | (simp at hc; done) | (split at hc <;> simp at hc; done) | (simp only [Option.map_eq_some_iff] at hc; obtain ⟨_,_,hc⟩:=hc; cases hc))
 | exit i =>
  intro c hc Q st a w β hr h
  cases c <;> simp only [sB,yV.erase] at hc
  case exit id =>
   simp only [Option.some.injEq,yV.exit.injEq] at hc
   subst hc
   exact wp_exit ⟨.exit _,st,β,rfl,hr,Ext.refl _ _ _,h⟩
  case region id ops d =>
   exfalso
   cases d <;> simp only [sB] at hc
   ·simp only [Option.map_eq_some_iff] at hc
    obtain ⟨ys,hy,he⟩:=hc
    cases he
   ·obtain ⟨n,ds,he⟩:=qL hc
    cases he
  all_goals (exfalso; first | (simp at hc; done) | (split at hc <;> simp at hc; done) | (simp only [Option.map_eq_some_iff] at hc; obtain ⟨_,_,hc⟩:=hc; cases hc))
 | ret =>
  intro c hc Q st a w β hr h
  cases c <;> simp only [sB,yV.erase] at hc
  case ret => exact wp_ret ⟨.ret,st,β,trivial,hr,Ext.refl _ _ _,h⟩
  case region id ops d =>
   exfalso
   cases d <;> simp only [sB] at hc
   ·simp only [Option.map_eq_some_iff] at hc
    obtain ⟨ys,hy,he⟩:=hc
    cases he
   ·obtain ⟨n,ds,he⟩:=qL hc
    cases he
  all_goals (exfalso; first | (simp at hc; done) | (split at hc <;> simp at hc; done) | (simp only [Option.map_eq_some_iff] at hc; obtain ⟨_,_,hc⟩:=hc; cases hc))
end
end Go.Proofs.Ytokckcnfojjpjaa
