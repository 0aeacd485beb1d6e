/-
  Parts of the proof: Values of polynomials as they are told (poly.Eval); isoclinelaw19.StepGrows.
-/
import Derived.Test.YtokckcnfojjpjaaGreatNb21
import Derived.Test.YtokckcnfojjpjaaGreatNb20
set_option linter.unusedVariables false
set_option linter.unusedSimpArgs false
namespace Go.Proofs.YtokckcnfojjpjaaGreat
open Go.RowKit
set_option maxRecDepth 20000
def PvK (l : List R2) (u : V) : Prop := ∃ e : Int, u = i64 e ∧ (e = 0 → pB l ∧ l.length ≤ 13)
theorem PvK.of {l : List R2} {e : Int} {H : Hp} (h : e = 0 → pB l ∧ l.length ≤ 13) : ∃ d, FzV H (i64 e) d ∧ PvK l d := ⟨_, .c (.hf trivial), e, rfl, h⟩
def PEvK (q : Rat) (u : V) : Prop := ∃ (v : R2) (e : Int), u = .tup [.agg (ratC v), i64 e] ∧ (e = 0 → wZ v.1 v.2 ∧ rt v = q)
theorem PEvK.of {q : Rat} {v : R2} {e : Int} {H : Hp} (h : e = 0 → wZ v.1 v.2 ∧ rt v = q) : ∃ d, FzV H (.tup [.agg (ratC v), i64 e]) d ∧ PEvK q d := ⟨_, .tup (.cons (.agg (.hf (pH _))) (.cons (.c (.hf trivial)) .nil)), v, e, rfl, h⟩
theorem PEvK.bad {q : Rat} {e : Int} {H : Hp} (h : e ≠ 0) : ∃ d, FzV H (.tup [.agg [.int .i64 0, .int .i64 0], i64 e]) d ∧ PEvK q d := PEvK.of (v := (0, 0)) (fun h2 => absurd h2 h)
theorem map_rt_rp (l : List Rat) : (l.map rp).map rt = l := by
 rw [List.map_map]
 conv => rhs; rw [← List.map_id l]
 exact List.map_congr_left fun q _ => rt_rp q
theorem ld_numer {c : C} {l : List R2} {n i : Nat} {K : V → Prop} (hc : Ls elP c l) (hi : i < l.length) (hn : n = i) (k : K (.c (iC l[i].1))) : yL ((c.ds.drop (n * 2)).drop 0) false 1 K := by
 subst hn
 obtain ⟨cs, r, h1, h⟩ := hc.els.get hi
 have h1 : cs = ratC l[n] := h1
 subst h1
 have h : c.ds.drop (n * 2) = ratC l[n] ++ r := h
 rw [h]
 exact k
attribute [local irreducible] yA semH semC qLen qNil qIad qSlc qIdx yW yL xD appX appI slcX awpF yP xI xopF xR qval lval seqQ xL wJ wI xW cnd arith IntKind.wrap
theorem poly_Validate {c : C} {l : List R2} (hc : Ls elP c l) (hl : l.length < vE) : semC Tryz.prog n_poly_Validate [.c c] (PvK l) := by
 unfold vE at hl
 refine yD ok_poly_Validate rfl (show HFVs [.c c] from ⟨hc.hf, trivial⟩) ?_
 refine go13 ?_
 cases h1 : yA Cm.gtr (l.length : Int) 13
 case true =>
  simp [yA] at h1
  refine go13 ?_
  exact PvK.of (fun h => absurd h (by decide))
 simp [yA] at h1
 refine go13 ?_
 first | refine yE (jQ hc hl) (fun u hu => ?_) | refine yB (jQ hc hl) (fun u hu => ?_)
 obtain ⟨z, rfl, hz⟩ := hu
 cases z
 case false =>
  refine go13 ?_
  exact PvK.of (fun h => absurd h (by decide))
 have hv := hz.1 rfl
 refine go13 ?_
 cases h2 : yA Cm.gtr (l.length : Int) 0
 case false =>
  refine go13 ?_
  exact PvK.of (fun _ => ⟨hv, by omega⟩)
 simp [yA] at h2
 refine go13 ?_
 rw [pR l.length (by omega) (by omega)]
 refine go13 ?_
 refine ld_numer hc (i := l.length - 1) (by omega) (by omega) ?_
 refine go13 ?_
 cases h3 : yA Cm.eql (l[l.length - 1]'(by omega)).1 0
 case true =>
  refine go13 ?_
  exact PvK.of (fun h => absurd h (by decide))
 refine go13 ?_
 exact PvK.of (fun _ => ⟨hv, by omega⟩)
theorem qp_Of {c : C} {l : List R2} (hc : Ls elP c l) (hv : pB l) (hl : l.length ≤ 13) : semC Tryz.prog n_qp_Of [.c c] (PolyK (elQ 2) (Cut (l.map rt))) := by
 refine yD ok_qp_Of rfl (show HFVs [.c c] from ⟨hc.hf, trivial⟩) ?_
 refine go13 ?_
 first | refine yE (num_In hc hv (by omega)) (fun u hu => ?_) | refine yB (num_In hc hv (by omega)) (fun u hu => ?_)
 obtain ⟨d, rfl, ld⟩ := hu
 refine go13 ?_
 first | refine yE (qp_Trim ld (by rw [List.length_map]; omega)) (fun u hu => ?_) | refine yB (qp_Trim ld (by rw [List.length_map]; omega)) (fun u hu => ?_)
 obtain ⟨e, m, rfl, le, hm⟩ := hu
 refine go13 ?_
 exact PolyK.fz le hm
theorem poly_value {k : Nat} {cs : List C} {q : Rat} (hx : IQ k cs q) : semC Tryz.prog n_poly_value [.agg cs] (PEvK q) := by
 refine yD ok_poly_value rfl (show HFVs [.agg cs] from ⟨hx.hf, trivial⟩) ?_
 obtain ⟨a0, a1, a2, a3, a4, a5, rfl⟩ := id hx.six
 refine go13 ?_
 first | refine yE (pM hx.is (pS q)) (fun u hu => ?_) | refine yB (pM hx.is (pS q)) (fun u hu => ?_)
 obtain rfl := hu
 unfold outV
 cases hf : fitR (rp q)
 ·refine go13 ?_
  exact PEvK.bad (by decide)
 ·refine go13 ?_
  simp only [tN, tM, ratC, tY, tX, List.set_cons_zero, List.set_cons_succ, List.nil_append, List.cons_append, List.append_nil, List.replicate_succ, List.replicate_zero, List.length_cons, List.length_nil, splice, List.take_succ_cons, List.take_zero, List.drop_succ_cons, List.drop_zero, List.take_nil, List.drop_nil, Nat.zero_add, Nat.reduceAdd, Nat.reduceMul, Int.reduceToNat, wF, List.getElem?_cons_succ, List.getElem?_cons_zero]
  exact PEvK.of (v := rp q) (fun _ => ⟨fit_ratS hf, rt_rp q⟩)
theorem sB {c : C} {l : List R2} (z : R2) (hc : Ls elP c l) (hl : l.length < vE) : semC Tryz.prog n_poly_Eval [.c c, .agg (ratC z)] (PEvK (ev (l.map rt) (rt z))) := by
 refine yD ok_poly_Eval rfl (show HFVs [.c c, .agg (ratC z)] from ⟨hc.hf, pH _, trivial⟩) ?_
 refine go13 ?_
 first | refine yE (poly_Validate hc hl) (fun u hu => ?_) | refine yB (poly_Validate hc hl) (fun u hu => ?_)
 obtain ⟨e, rfl, he⟩ := hu
 refine go13 ?_
 rw [jW]
 cases h1 : dec (e ≠ 0)
 case true =>
  have h1 := yH.1 h1
  refine go13 ?_
  simp only [tN, tM, ratC, tY, tX, List.set_cons_zero, List.set_cons_succ, List.nil_append, List.cons_append, List.append_nil, List.replicate_succ, List.replicate_zero, List.length_cons, List.length_nil, splice, List.take_succ_cons, List.take_zero, List.drop_succ_cons, List.drop_zero, List.take_nil, List.drop_nil, Nat.zero_add, Nat.reduceAdd, Nat.reduceMul, Int.reduceToNat, wF, List.getElem?_cons_succ, List.getElem?_cons_zero]
  exact PEvK.bad h1
 have h1 : e = 0 := Classical.byContradiction (yM.1 h1)
 obtain ⟨hv, hl13⟩ := he h1
 refine go13 ?_
 first | refine yE (rat_Validate z) (fun u hu => ?_) | refine yB (rat_Validate z) (fun u hu => ?_)
 obtain rfl := hu
 cases hz : dec (wZ z.1 z.2)
 case false =>
  refine go13 ?_
  rw [show yA Cm.neq 1 0 = true by simp [yA]]
  refine go13 ?_
  simp only [tN, tM, ratC, tY, tX, List.set_cons_zero, List.set_cons_succ, List.nil_append, List.cons_append, List.append_nil, List.replicate_succ, List.replicate_zero, List.length_cons, List.length_nil, splice, List.take_succ_cons, List.take_zero, List.drop_succ_cons, List.drop_zero, List.take_nil, List.drop_nil, Nat.zero_add, Nat.reduceAdd, Nat.reduceMul, Int.reduceToNat, wF, List.getElem?_cons_succ, List.getElem?_cons_zero]
  exact PEvK.bad (by decide)
 have hz := yH.1 hz
 refine go13 ?_
 rw [show yA Cm.neq 0 0 = false by simp [yA]]
 refine go13 ?_
 first | refine yE (qp_Of hc hv hl13) (fun u hu => ?_) | refine yB (qp_Of hc hv hl13) (fun u hu => ?_)
 obtain ⟨c2, m, rfl, lm, hm⟩ := hu
 have hml := hm.len
 rw [List.length_map] at hml
 have hk := evK_mono (k := 2) (m := 2) (show m.length ≤ 13 by omega)
 have hk0 : evK 2 2 13 = 66 := rfl
 refine go13 ?_
 first | refine yE (q_Of hz) (fun u hu => ?_) | refine yB (q_Of hz) (fun u hu => ?_)
 obtain ⟨e1, rfl, g1⟩ := hu
 refine go13 ?_
 first | refine yE (qp_Eval lm g1 (by omega) (by omega)) (fun u hu => ?_) | refine yB (qp_Eval lm g1 (by omega) (by omega)) (fun u hu => ?_)
 obtain ⟨e2, rfl, g2⟩ := hu
 rw [hm.ev] at g2
 refine go13 ?_
 first | refine yE (poly_value g2) (fun u hu => ?_) | refine yB (poly_value g2) (fun u hu => ?_)
 obtain ⟨v, ee, rfl, hv2⟩ := hu
 refine go13 ?_
 simp only [tN, tM, ratC, tY, tX, List.set_cons_zero, List.set_cons_succ, List.nil_append, List.cons_append, List.append_nil, List.replicate_succ, List.replicate_zero, List.length_cons, List.length_nil, splice, List.take_succ_cons, List.take_zero, List.drop_succ_cons, List.drop_zero, List.take_nil, List.drop_nil, Nat.zero_add, Nat.reduceAdd, Nat.reduceMul, Int.reduceToNat, wF, List.getElem?_cons_succ, List.getElem?_cons_zero]
 exact PEvK.of hv2
theorem law19_StepGrows (m : Int) (x h : R2) : semC Tryz.prog n_law19_StepGrows [i64 m, .agg (ratC x), .agg (ratC h)] TrueK := by
 refine yD ok_law19_StepGrows rfl (show HFVs [i64 m, .agg (ratC x), .agg (ratC h)] from ⟨trivial, pH _, pH _, trivial⟩) ?_
 have hgl := grow_len m
 refine go13 ?_
 first | refine yE (step_Growth m) (fun u hu => ?_) | refine yB (step_Growth m) (fun u hu => ?_)
 obtain ⟨c1, d1, rfl, l1, l2⟩ := hu
 by_cases h1 : m < 0 ∨ 6 < m
 ·have e1 : grR m = ([], [], 1) := by unfold grR; rw [if_pos h1]
  rw [e1]
  refine go13 ?_
  rw [show yA Cm.neq (([], [], 1) : List R2 × List R2 × Int).2.2 0 = true by simp [yA]]
  refine go13 ?_
  first | refine yE vQ (fun u hu => ?_) | refine yB vQ (fun u hu => ?_)
  obtain rfl := hu
  refine go13 ?_
  exact TrueK.fz
 by_cases h2 : m = 6
 ·have e1 : grR m = ([], [], 6) := by unfold grR; rw [if_neg h1, if_pos h2]
  rw [e1]
  refine go13 ?_
  rw [show yA Cm.neq (([], [], 6) : List R2 × List R2 × Int).2.2 0 = true by simp [yA]]
  refine go13 ?_
  first | refine yE vQ (fun u hu => ?_) | refine yB vQ (fun u hu => ?_)
  obtain rfl := hu
  refine go13 ?_
  exact TrueK.fz
 have e1 : grR m = ((tI m).1.map rp, (tI m).2.map rp, 0) := by unfold grR; rw [if_neg h1, if_neg h2]
 rw [e1] at l1 l2 ⊢
 refine go13 ?_
 rw [show yA Cm.neq (((tI m).1.map rp, (tI m).2.map rp, 0) : List R2 × List R2 × Int).2.2 0 = false by simp [yA]]
 refine go13 ?_
 simp only [tN, tM, ratC, tY, tX, List.set_cons_zero, List.set_cons_succ, List.nil_append, List.cons_append, List.append_nil, List.replicate_succ, List.replicate_zero, List.length_cons, List.length_nil, splice, List.take_succ_cons, List.take_zero, List.drop_succ_cons, List.drop_zero, List.take_nil, List.drop_nil, Nat.zero_add, Nat.reduceAdd, Nat.reduceMul, Int.reduceToNat, wF, List.getElem?_cons_succ, List.getElem?_cons_zero]
 have kx : Ls elP (.imm 1 [iC x.1, iC x.2]) [x] := .imm (.one (E := elP) (a := x) rfl)
 first | refine yE (step_Step m (0, 1) h 0 k_elM (by decide) kx (by simp [vE]) (imp_all m)) (fun u hu => ?_) | refine yB (step_Step m (0, 1) h 0 k_elM (by decide) kx (by simp [vE]) (imp_all m)) (fun u hu => ?_)
 rcases hu with ⟨_, e, hr, he, rfl⟩ | ⟨hk, y, c, hr, hT, rfl, hc⟩ | ⟨_, e, he, rfl, _⟩
 case inl =>
  refine go13 ?_
  first | refine yE (sB h l1 (by simp [vE]; omega)) (fun u hu => ?_) | refine yB (sB h l1 (by simp [vE]; omega)) (fun u hu => ?_)
  obtain ⟨v1, f1, rfl, hv1⟩ := hu
  refine go13 ?_
  first | refine yE (sB h l2 (by simp [vE]; omega)) (fun u hu => ?_) | refine yB (sB h l2 (by simp [vE]; omega)) (fun u hu => ?_)
  obtain ⟨v2, f2, rfl, hv2⟩ := hu
  rw [map_rt_rp] at hv1 hv2
  refine go13 ?_
  rw [jW, yH.2 he]
  refine go13 ?_
  first | refine yE vQ (fun u hu => ?_) | refine yB vQ (fun u hu => ?_)
  obtain rfl := hu
  refine go13 ?_
  exact TrueK.fz
 case inr.inr =>
  refine go13 ?_
  first | refine yE (sB h l1 (by simp [vE]; omega)) (fun u hu => ?_) | refine yB (sB h l1 (by simp [vE]; omega)) (fun u hu => ?_)
  obtain ⟨v1, f1, rfl, hv1⟩ := hu
  refine go13 ?_
  first | refine yE (sB h l2 (by simp [vE]; omega)) (fun u hu => ?_) | refine yB (sB h l2 (by simp [vE]; omega)) (fun u hu => ?_)
  obtain ⟨v2, f2, rfl, hv2⟩ := hu
  rw [map_rt_rp] at hv1 hv2
  refine go13 ?_
  rw [jW, yH.2 he]
  refine go13 ?_
  first | refine yE vQ (fun u hu => ?_) | refine yB vQ (fun u hu => ?_)
  obtain rfl := hu
  refine go13 ?_
  exact TrueK.fz
 have hr : runV m kF (rt h) (rt (0, 1)) 0 [rt x] 1 = .ok [[rt x], y] := hr
 obtain ⟨z, hz, hyz⟩ := run_one hr
 rw [map_rd0] at hyz
 subst hyz
 obtain ⟨y0, rfl, hy0⟩ := grows_plain (by omega) (by omega) hz
 have hy0r : wZ (rp y0).1 (rp y0).2 := fit_ratS (hT.2 y0 (by simp))
 have hxr : wZ x.1 x.2 := hk.hx x (by simp)
 obtain ⟨L, hL⟩ : ∃ L : List R2, L = [y0].map rp := ⟨_, rfl⟩
 rw [← hL] at hc
 have hLl : L.length = 1 := by rw [hL]; rfl
 have hL0 : L[0]'(by omega) = rp y0 := by simp [hL]
 refine go13 ?_
 first | refine yE (sB h l1 (by simp [vE]; omega)) (fun u hu => ?_) | refine yB (sB h l1 (by simp [vE]; omega)) (fun u hu => ?_)
 obtain ⟨v1, f1, rfl, hv1⟩ := hu
 refine go13 ?_
 first | refine yE (sB h l2 (by simp [vE]; omega)) (fun u hu => ?_) | refine yB (sB h l2 (by simp [vE]; omega)) (fun u hu => ?_)
 obtain ⟨v2, f2, rfl, hv2⟩ := hu
 rw [map_rt_rp] at hv1 hv2
 refine go13 ?_
 rw [show yA Cm.neq 0 0 = false by simp [yA]]
 refine go13 ?_
 cases hf : yA Cm.neq f1 0
 case true =>
  refine go13 ?_
  first | refine yE vQ (fun u hu => ?_) | refine yB vQ (fun u hu => ?_)
  obtain rfl := hu
  refine go13 ?_
  exact TrueK.fz
 simp [yA] at hf
 obtain ⟨v1r, v1e⟩ := hv1 hf
 refine go13 ?_
 cases hg : yA Cm.neq f2 0
 case true =>
  refine go13 ?_
  first | refine yE vQ (fun u hu => ?_) | refine yB vQ (fun u hu => ?_)
  obtain rfl := hu
  refine go13 ?_
  exact TrueK.fz
 simp [yA] at hg
 obtain ⟨v2r, v2e⟩ := hv2 hg
 refine go13 ?_
 rw [hLl, show yA Cm.eql (((1 : Nat) : Int)) 1 = true by simp [yA]]
 refine go13 ?_
 refine qD hc (i := 0) (by omega) (by decide) rfl (fun cs hcs => ?_)
 rw [hL0] at hcs
 obtain rfl := (show cs = ratC (rp y0) from hcs)
 refine go13 ?_
 simp only [tN, tM, ratC, tY, tX, List.set_cons_zero, List.set_cons_succ, List.nil_append, List.cons_append, List.append_nil, List.replicate_succ, List.replicate_zero, List.length_cons, List.length_nil, splice, List.take_succ_cons, List.take_zero, List.drop_succ_cons, List.drop_zero, List.take_nil, List.drop_nil, Nat.zero_add, Nat.reduceAdd, Nat.reduceMul, Int.reduceToNat, wF, List.getElem?_cons_succ, List.getElem?_cons_zero]
 first | refine yE (r_Of hy0r) (fun u hu => ?_) | refine yB (r_Of hy0r) (fun u hu => ?_)
 obtain ⟨s1, rfl, g1⟩ := hu
 refine go13 ?_
 first | refine yE (r_Of v2r) (fun u hu => ?_) | refine yB (r_Of v2r) (fun u hu => ?_)
 obtain ⟨s2, rfl, g2⟩ := hu
 refine go13 ?_
 first | refine yE (r_Mul2 g1 g2 (by decide)) (fun u hu => ?_) | refine yB (r_Mul2 g1 g2 (by decide)) (fun u hu => ?_)
 obtain ⟨s3, rfl, g3⟩ := hu
 refine go13 ?_
 first | refine yE (r_Of hxr) (fun u hu => ?_) | refine yB (r_Of hxr) (fun u hu => ?_)
 obtain ⟨s4, rfl, g4⟩ := hu
 refine go13 ?_
 first | refine yE (r_Of v1r) (fun u hu => ?_) | refine yB (r_Of v1r) (fun u hu => ?_)
 obtain ⟨s5, rfl, g5⟩ := hu
 refine go13 ?_
 first | refine yE (r_Mul2 g4 g5 (by decide)) (fun u hu => ?_) | refine yB (r_Mul2 g4 g5 (by decide)) (fun u hu => ?_)
 obtain ⟨s6, rfl, g6⟩ := hu
 refine go13 ?_
 first | refine yE (r_Cmp2 g3 g6 (by decide)) (fun u hu => ?_) | refine yB (r_Cmp2 g3 g6 (by decide)) (fun u hu => ?_)
 obtain rfl := hu
 refine go13 ?_
 rw [cq_eql, yH.2 (by rw [rt_rp, v1e, v2e]; exact hy0)]
 refine go13 ?_
 first | refine yE vQ (fun u hu => ?_) | refine yB vQ (fun u hu => ?_)
 obtain rfl := hu
 refine go13 ?_
 exact TrueK.fz
end Go.Proofs.YtokckcnfojjpjaaGreat
