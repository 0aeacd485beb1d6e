/-
  isoclinelaw05.SpanArith returns true for every input, and the arguments read afterwards as they read before. Conditions: none.
-/
import Derived.Test.YtjncgcnofiaiaaaGreatMb6
import Derived.Test.YtjncgcnofiaiaaaGreatMb5
/-
  isoclineref05: Plus, Less, Times, Over, Wide, Do; the law of sums, differences, products and quotients.
-/
set_option linter.unusedVariables false
set_option linter.unusedSimpArgs false
namespace Go.Proofs.YtjncgcnofiaiaaaGreat
open Go.RowKit
set_option maxRecDepth 20000

def SRK (R : SP → Prop) (u : V) : Prop := ∃ cs e, u = .agg cs ∧ IsS cs e ∧ R e
def WideR (x : SP) (g : Int) (e : SP) : Prop := Red (x.1.1 * g / x.1.2) g e.1 ∧ Red (-(-(x.2.1 * g) / x.2.2)) g e.2
theorem SRK.fz {R : SP → Prop} {e : SP} {cs : List C} {H : Hp} (h : IsS cs e) (r : R e) : ∃ d, FzV H (.agg cs) d ∧ SRK R d := ⟨_, .agg (.hf h.hf), cs, e, rfl, h, r⟩
theorem rw_zero : IsW [.nilSl, .bool false] 0 := .mk (l := []) false .nil Norm.nil (fun h => by cases h)
theorem rq_zero : IsRQ [.nilSl, .bool false, .nilSl, .bool false] ((0, 1) : R2).1 ((0, 1) : R2).2 := .mk rw_zero rw_zero
theorem grid_sz1 {k : Nat} {g : Int} (hk : 1 ≤ k) (g1 : 1 ≤ g) (g2 : g ≤ 1000000) : Sz k g := by
  have : Sz 1 g := by
    unfold Sz
    simp only [Nat.pow_one]
    omega
  exact this.up hk
theorem rr_eq {n d n' d' : Int} {u : V} (h : RRK n d u) (h1 : n = n') (h2 : d = d') : RRK n' d' u := by subst h1 h2; exact h
theorem SpanOk.two {x : SP} (h : SpanOk x) : 0 < x.1.2 ∧ 0 < x.2.2 := ⟨by have := h.1.1; omega, by have := h.2.1.1; omega⟩
theorem wide_lo {x : R2} {g : Int} {p q r : R2} (hx : 0 < x.2) (hg : 0 < g) (h1 : Red (x.1 * g) (x.2 * 1) p) (h2 : q = (p.1 / p.2, 1)) (h3 : Red (q.1 * 1) (q.2 * g) r) : Red (x.1 * g / x.2) g r := by
  subst h2
  simp only [Int.mul_one, Int.one_mul] at h1 h3
  rwa [red_floor h1.pos hx h1.eq] at h3
theorem wide_hi {x : R2} {g : Int} {p q r : R2} (hx : 0 < x.2) (hg : 0 < g) (h1 : Red (x.1 * g) (x.2 * 1) p) (h2 : q = (-(-p.1 / p.2), 1)) (h3 : Red (q.1 * 1) (q.2 * g) r) : Red (-(-(x.1 * g) / x.2)) g r := by
  subst h2
  simp only [Int.mul_one, Int.one_mul] at h1 h3
  rwa [red_floor (p1 := -p.1) (n := -(x.1 * g)) h1.pos hx (by rw [Int.neg_mul, h1.eq, Int.neg_mul])] at h3
attribute [local irreducible] compare' semH semC qLen qNil qIad qSlc qIdx ldBox ldCells stBox appX awpF awpOpsF awpDF xopF xopDF qval lval seqQ blockQ loopQ bodyF retKF cnd arith IntKind.wrap

theorem ref01_IsGrid (g : Int) : semC Tryz.prog n_ref01_IsGrid [i64 g] (BoolK (1 ≤ g ∧ g ≤ 1000000)) := by
  refine semC_of_awpF ok_ref01_IsGrid rfl (show HFVs [i64 g] from ⟨trivial, trivial⟩) ?_
  refine go2 ?_
  cases h1 : compare' Cm.geq g 1
  · refine go2 ?_
    exact ⟨_, .c (.hf trivial), false, rfl, by simp [compare'] at h1; simp; omega⟩
  · refine go2 ?_
    cases h2 : compare' Cm.leq g 1000000
    · exact ⟨_, .c (.hf trivial), false, rfl, by simp [compare'] at h1 h2; simp; omega⟩
    · exact ⟨_, .c (.hf trivial), true, rfl, by simp [compare'] at h1 h2; simp; omega⟩

theorem ref05_Plus {k : Nat} {cs ds : List C} {x y : SP} (hx : IsS cs x) (hy : IsS ds y) (bx : BdS k x) (by' : BdS k y) (hk : k + k + 1 ≤ 268435456) : semC Tryz.prog n_ref05_Plus [.agg cs, .agg ds] (SRK (EndsAdd x y)) := by
  refine semC_of_awpF ok_ref05_Plus rfl (show HFVs [.agg cs, .agg ds] from ⟨hx.hf, hy.hf, trivial⟩) ?_
  obtain ⟨a, b, c, d, a', b', c', d', rfl, q1, q2⟩ := hx.parts
  obtain ⟨e, f, g, h, e', f', g', h', rfl, q3, q4⟩ := hy.parts
  refine go2 ?_
  simp only [spanC, zeroC, ratC, zeroE, zeroS, List.set_cons_zero, List.set_cons_succ, List.nil_append, List.cons_append, List.append_nil, List.replicate_succ, List.replicate_zero, List.length_cons, List.length_nil, splice, List.take_succ_cons, List.take_zero, List.drop_succ_cons, List.drop_zero, List.take_nil, List.drop_nil, Nat.zero_add, Nat.reduceAdd, Nat.reduceMul, Int.reduceToNat, closeB, List.getElem?_cons_succ, List.getElem?_cons_zero]
  refine call_C (ref01_Q_Add q1 q3 bx.lo by'.lo hk) (fun u hu => ?_)
  obtain ⟨es, r1, rfl, j1, red1⟩ := hu
  refine go2 ?_
  refine call_C (ref01_Q_Add q2 q4 bx.hi by'.hi hk) (fun u hu => ?_)
  obtain ⟨fs, r2, rfl, j2, red2⟩ := hu
  obtain ⟨_, _, _, _, _, rfl, _⟩ := id j1.four
  obtain ⟨_, _, _, _, _, rfl, _⟩ := id j2.four
  refine go2 ?_
  exact SRK.fz (e := (r1, r2)) (.of j1 j2) ⟨red1, red2⟩
theorem ref05_Less {k : Nat} {cs ds : List C} {x y : SP} (hx : IsS cs x) (hy : IsS ds y) (bx : BdS k x) (by' : BdS k y) (hk : k + k + 1 ≤ 268435456) : semC Tryz.prog n_ref05_Less [.agg cs, .agg ds] (SRK (EndsSub x y)) := by
  refine semC_of_awpF ok_ref05_Less rfl (show HFVs [.agg cs, .agg ds] from ⟨hx.hf, hy.hf, trivial⟩) ?_
  obtain ⟨a, b, c, d, a', b', c', d', rfl, q1, q2⟩ := hx.parts
  obtain ⟨e, f, g, h, e', f', g', h', rfl, q3, q4⟩ := hy.parts
  refine go2 ?_
  simp only [spanC, zeroC, ratC, zeroE, zeroS, List.set_cons_zero, List.set_cons_succ, List.nil_append, List.cons_append, List.append_nil, List.replicate_succ, List.replicate_zero, List.length_cons, List.length_nil, splice, List.take_succ_cons, List.take_zero, List.drop_succ_cons, List.drop_zero, List.take_nil, List.drop_nil, Nat.zero_add, Nat.reduceAdd, Nat.reduceMul, Int.reduceToNat, closeB, List.getElem?_cons_succ, List.getElem?_cons_zero]
  refine call_C (ref01_Q_Sub q1 q4 bx.lo by'.hi hk) (fun u hu => ?_)
  obtain ⟨es, r1, rfl, j1, red1⟩ := hu
  refine go2 ?_
  refine call_C (ref01_Q_Sub q2 q3 bx.hi by'.lo hk) (fun u hu => ?_)
  obtain ⟨fs, r2, rfl, j2, red2⟩ := hu
  obtain ⟨_, _, _, _, _, rfl, _⟩ := id j1.four
  obtain ⟨_, _, _, _, _, rfl, _⟩ := id j2.four
  refine go2 ?_
  exact SRK.fz (e := (r1, r2)) (.of j1 j2) ⟨red1, red2⟩
theorem ref05_Times {k : Nat} {cs ds : List C} {x y : SP} (hx : IsS cs x) (hy : IsS ds y) (bx : BdS k x) (by' : BdS k y) (hk : k + k + 1 ≤ 268435456) : semC Tryz.prog n_ref05_Times [.agg cs, .agg ds] (SRK (EndsMul x y)) := by
  refine semC_of_awpF ok_ref05_Times rfl (show HFVs [.agg cs, .agg ds] from ⟨hx.hf, hy.hf, trivial⟩) ?_
  obtain ⟨a, b, c, d, a', b', c', d', rfl, q1, q2⟩ := hx.parts
  obtain ⟨e, f, g, h, e', f', g', h', rfl, q3, q4⟩ := hy.parts
  refine go3 ?_
  simp only [spanC, zeroC, ratC, zeroE, zeroS, List.set_cons_zero, List.set_cons_succ, List.nil_append, List.cons_append, List.append_nil, List.replicate_succ, List.replicate_zero, List.length_cons, List.length_nil, splice, List.take_succ_cons, List.take_zero, List.drop_succ_cons, List.drop_zero, List.take_nil, List.drop_nil, Nat.zero_add, Nat.reduceAdd, Nat.reduceMul, Int.reduceToNat, closeB, List.getElem?_cons_succ, List.getElem?_cons_zero]
  refine call_C (ref01_Q_Mul q1 q3 bx.lo by'.lo hk) (fun u hu => ?_)
  obtain ⟨e1, r1, rfl, j1, red1⟩ := hu
  refine go3 ?_
  refine call_C (ref01_Q_Mul q1 q4 bx.lo by'.hi hk) (fun u hu => ?_)
  obtain ⟨e2, r2, rfl, j2, red2⟩ := hu
  refine go3 ?_
  refine call_C (ref01_Q_Mul q2 q3 bx.hi by'.lo hk) (fun u hu => ?_)
  obtain ⟨e3, r3, rfl, j3, red3⟩ := hu
  refine go3 ?_
  refine semH_of_semC (ref01_Q_Mul q2 q4 bx.hi by'.hi hk) (fun u hu => ?_)
  obtain ⟨e4, r4, rfl, j4, red4⟩ := hu
  have b1 := red1.bd (bx.lo.n.mul by'.lo.n) (bx.lo.d.mul by'.lo.d)
  have b2 := red2.bd (bx.lo.n.mul by'.hi.n) (bx.lo.d.mul by'.hi.d)
  have b3 := red3.bd (bx.hi.n.mul by'.lo.n) (bx.hi.d.mul by'.lo.d)
  have b4 := red4.bd (bx.hi.n.mul by'.hi.n) (bx.hi.d.mul by'.hi.d)
  obtain ⟨s1, s2, s3, s4, _, rfl, _⟩ := id j1.four
  obtain ⟨t1, t2, t3, t4, _, rfl, _⟩ := id j2.four
  obtain ⟨u1, u2, u3, u4, _, rfl, _⟩ := id j3.four
  obtain ⟨v1, v2, v3, v4, _, rfl, _⟩ := id j4.four
  refine go3 ?_
  simp only [spanC, zeroC, ratC, zeroE, zeroS, List.set_cons_zero, List.set_cons_succ, List.nil_append, List.cons_append, List.append_nil, List.replicate_succ, List.replicate_zero, List.length_cons, List.length_nil, splice, List.take_succ_cons, List.take_zero, List.drop_succ_cons, List.drop_zero, List.take_nil, List.drop_nil, Nat.zero_add, Nat.reduceAdd, Nat.reduceMul, Int.reduceToNat, closeB, List.getElem?_cons_succ, List.getElem?_cons_zero]
  refine semH_of_semC_close [3] (.cons (.c (fz_sl (ds := ([([s1, .bool s2, s3, .bool s4], r1), ([t1, .bool t2, t3, .bool t4], r2), ([u1, .bool u2, u3, .bool u4], r3), ([v1, .bool v2, v3, .bool v4], r4)] : List Cv).flatMap (·.1)) (by rfl) (by rfl) (by simp) (by rfl) ?_)) .nil) (ref05_least (k := k + k) (l := [([s1, .bool s2, s3, .bool s4], r1), ([t1, .bool t2, t3, .bool t4], r2), ([u1, .bool u2, u3, .bool u4], r3), ([v1, .bool v2, v3, .bool v4], r4)]) (by simp) (by simp) ?_ (by omega)) (fun u hu => ?_)
  · exact HFL_app j1.hf (HFL_app j2.hf (HFL_app j3.hf (HFL_app j4.hf trivial)))
  · intro e he
    simp at he
    rcases he with rfl | rfl | rfl | rfl
    · exact ⟨j1, b1⟩
    · exact ⟨j2, b2⟩
    · exact ⟨j3, b3⟩
    · exact ⟨j4, b4⟩
  rw [foldV_map] at hu
  obtain ⟨es, rfl, h5⟩ := hu
  obtain ⟨_, _, _, _, _, _, _, _, rfl, _⟩ := id h5.parts
  simp only [spanC, zeroC, ratC, zeroE, zeroS, List.set_cons_zero, List.set_cons_succ, List.nil_append, List.cons_append, List.append_nil, List.replicate_succ, List.replicate_zero, List.length_cons, List.length_nil, splice, List.take_succ_cons, List.take_zero, List.drop_succ_cons, List.drop_zero, List.take_nil, List.drop_nil, Nat.zero_add, Nat.reduceAdd, Nat.reduceMul, Int.reduceToNat, closeB, List.getElem?_cons_succ, List.getElem?_cons_zero]
  refine go3 ?_
  exact SRK.fz (e := [r1, r2, r3, r4].foldl wider (r1, r1)) h5 ⟨r1, r2, r3, r4, red1, red2, red3, red4, rfl⟩
theorem ref05_Over {k : Nat} {cs ds : List C} {x y : SP} (hx : IsS cs x) (hy : IsS ds y) (bx : BdS k x) (by' : BdS k y) (hk : k + k + 3 ≤ 268435456) (h1 : y.1.1 ≠ 0) (h2 : y.2.1 ≠ 0) : semC Tryz.prog n_ref05_Over [.agg cs, .agg ds] (SRK (EndsDiv x y)) := by
  refine semC_of_awpF ok_ref05_Over rfl (show HFVs [.agg cs, .agg ds] from ⟨hx.hf, hy.hf, trivial⟩) ?_
  have bt : ∀ {t : SP}, Turn y t → BdS k t := fun h => by
    have a1 := h.1
    have a2 := h.2
    simp only [Int.one_mul] at a1 a2
    exact ⟨a1.bd by'.hi.d by'.hi.n, a2.bd by'.lo.d by'.lo.n⟩
  obtain ⟨a, b, c, d, a', b', c', d', rfl, q1, q2⟩ := hx.parts
  obtain ⟨e, f, g, h, e', f', g', h', rfl, q3, q4⟩ := hy.parts
  refine go2 ?_
  simp only [spanC, zeroC, ratC, zeroE, zeroS, List.set_cons_zero, List.set_cons_succ, List.nil_append, List.cons_append, List.append_nil, List.replicate_succ, List.replicate_zero, List.length_cons, List.length_nil, splice, List.take_succ_cons, List.take_zero, List.drop_succ_cons, List.drop_zero, List.take_nil, List.drop_nil, Nat.zero_add, Nat.reduceAdd, Nat.reduceMul, Int.reduceToNat, closeB, List.getElem?_cons_succ, List.getElem?_cons_zero]
  refine call_C (ref01_Q_Inv q4 by'.hi hk h2) (fun u hu => ?_)
  obtain ⟨es, r1, rfl, j1, red1⟩ := hu
  refine go2 ?_
  refine call_C (ref01_Q_Inv q3 by'.lo hk h1) (fun u hu => ?_)
  obtain ⟨fs, r2, rfl, j2, red2⟩ := hu
  obtain ⟨_, _, _, _, _, rfl, _⟩ := id j1.four
  obtain ⟨_, _, _, _, _, rfl, _⟩ := id j2.four
  refine go2 ?_
  have tn : Turn y (r1, r2) := ⟨red1, red2⟩
  refine call_C (ref05_Times hx (y := (r1, r2)) (.of j1 j2) bx (bt tn) (by omega)) (fun u hu => ?_)
  obtain ⟨gs, e, rfl, j3, red3⟩ := hu
  obtain ⟨_, _, _, _, _, _, _, _, rfl, _⟩ := id j3.parts
  refine go2 ?_
  exact SRK.fz j3 ⟨_, tn, red3⟩
theorem ref05_Wide {k : Nat} {cs : List C} {x : SP} {g : Int} (hx : IsS cs x) (bx : BdS k x) (hk1 : 2 ≤ k) (hk : k + k + k + k + 5 ≤ 268435456) (g1 : 1 ≤ g) (g2 : g ≤ 1000000) : semC Tryz.prog n_ref05_Wide [.agg cs, i64 g] (SRK (WideR x g)) := by
  refine semC_of_awpF ok_ref05_Wide rfl (show HFVs [.agg cs, i64 g] from ⟨hx.hf, trivial, trivial⟩) ?_
  obtain ⟨a, b, c, d, a', b', c', d', rfl, q1, q2⟩ := hx.parts
  have b1 : ∀ {n : Nat}, Sz (n + 1) 1 := Sz.one
  have s1 : Sz k 1 := (Sz.one (n := 0)).up (by omega)
  have bg : Bd k ((g, 1) : R2) := ⟨grid_sz1 (by omega) g1 g2, s1, by simp⟩
  refine go2 ?_
  refine semH_of_semC (ref01_Int (g := g) (by omega) (by omega)) (fun u hu => ?_)
  obtain ⟨es, rfl, h1⟩ := hu
  obtain ⟨_, _, _, _, _, rfl, _⟩ := id h1.four
  refine go2 ?_
  simp only [spanC, zeroC, ratC, zeroE, zeroS, List.set_cons_zero, List.set_cons_succ, List.nil_append, List.cons_append, List.append_nil, List.replicate_succ, List.replicate_zero, List.length_cons, List.length_nil, splice, List.take_succ_cons, List.take_zero, List.drop_succ_cons, List.drop_zero, List.take_nil, List.drop_nil, Nat.zero_add, Nat.reduceAdd, Nat.reduceMul, Int.reduceToNat, closeB, List.getElem?_cons_succ, List.getElem?_cons_zero]
  refine call_C (ref01_Q_Mul q1 h1 bx.lo bg (by omega)) (fun u hu => ?_)
  obtain ⟨fs, p, rfl, j1, red1⟩ := hu
  have bp : Bd (k + k) p := red1.bd (bx.lo.n.mul bg.n) (bx.lo.d.mul bg.d)
  refine go2 ?_
  refine call_C (ref01_Q_Floor j1 bp (by omega)) (fun u hu => ?_)
  obtain ⟨gs, rfl, j2⟩ := hu
  have bf : Bd (k + k) ((p.1 / p.2, 1) : R2) := ⟨Nat.lt_of_le_of_lt (ediv_le bp.pos) bp.n, s1.up (by omega), by simp⟩
  refine go2 ?_
  refine call_C (ref01_Q_Div j2 h1 bf ⟨bg.n.up (by omega), bg.d.up (by omega), bg.pos⟩ (by omega) (show g ≠ 0 by omega)) (fun u hu => ?_)
  obtain ⟨hs, r, rfl, j3, red3⟩ := hu
  have w1 := wide_lo bx.lo.pos (show 0 < g by omega) red1 rfl red3
  refine go2 ?_
  refine call_C (ref01_Q_Mul q2 h1 bx.hi bg (by omega)) (fun u hu => ?_)
  obtain ⟨fs', p', rfl, j1', red1'⟩ := hu
  have bp' : Bd (k + k) p' := red1'.bd (bx.hi.n.mul bg.n) (bx.hi.d.mul bg.d)
  refine go2 ?_
  refine call_C (ref01_Q_Ceil j1' bp' (by omega)) (fun u hu => ?_)
  obtain ⟨gs', rfl, j2'⟩ := hu
  have bf' : Bd (k + k) ((-(-p'.1 / p'.2), 1) : R2) := ⟨by
    have := ediv_le (a := -p'.1) bp'.pos
    have h := bp'.n
    unfold Sz at *
    simp only [Int.natAbs_neg] at *
    exact Nat.lt_of_le_of_lt this h, s1.up (by omega), by simp⟩
  refine go2 ?_
  refine call_C (ref01_Q_Div j2' h1 bf' ⟨bg.n.up (by omega), bg.d.up (by omega), bg.pos⟩ (by omega) (show g ≠ 0 by omega)) (fun u hu => ?_)
  obtain ⟨hs', r', rfl, j3', red3'⟩ := hu
  have w2 := wide_hi bx.hi.pos (show 0 < g by omega) red1' rfl red3'
  obtain ⟨_, _, _, _, _, rfl, _⟩ := id j3.four
  obtain ⟨_, _, _, _, _, rfl, _⟩ := id j3'.four
  refine go2 ?_
  exact SRK.fz (e := (r, r')) (.of j3 j3') ⟨w1, w2⟩
theorem ref05_Do (kind : Nat) (hkd : kind ≤ 3) (x y : SP) (g : Int) : semC Tryz.prog n_ref05_Do [i64 kind, .agg (spanC x), .agg (spanC y), i64 g] (AnsK kind x y g) := by
  refine semC_of_awpF ok_ref05_Do rfl (show HFVs [i64 kind, .agg (spanC x), .agg (spanC y), i64 g] from ⟨trivial, HFL_span x, HFL_span y, trivial, trivial⟩) ?_
  have bad : ∀ {H : Hp}, ¬ (SpanOk x ∧ SpanOk y ∧ 1 ≤ g ∧ g ≤ 1000000) → ∃ e, FzV H (.tup [.agg (spanC ((0, 0), (0, 0))), i64 1]) e ∧ AnsK kind x y g e := fun h => span_fz ((0, 0), (0, 0)) 1 (.bad (check_no h))
  refine go2 ?_
  refine semH_of_semC (ref05_Is x) (fun u hu => ?_)
  obtain ⟨z1, rfl, h1⟩ := hu
  cases z1
  case false =>
    refine go2 ?_
    exact bad (fun h => absurd (h1.2 h.1) (by decide))
  have r1 := h1.1 rfl
  refine go2 ?_
  refine semH_of_semC (ref05_Is y) (fun u hu => ?_)
  obtain ⟨z2, rfl, h2⟩ := hu
  cases z2
  case false =>
    refine go2 ?_
    exact bad (fun h => absurd (h2.2 h.2.1) (by decide))
  have r2 := h2.1 rfl
  refine go2 ?_
  refine semH_of_semC (ref01_IsGrid g) (fun u hu => ?_)
  obtain ⟨z3, rfl, h3⟩ := hu
  cases z3
  case false =>
    refine go2 ?_
    exact bad (fun h => absurd (h3.2 h.2.2) (by decide))
  obtain ⟨g1, g2⟩ := h3.1 rfl
  have hc := check_yes r1 r2 g1 g2
  have bx := r1.bd
  have by' := r2.bd
  clear bad h1 h2 h3
  refine go2 ?_
  simp only [spanC, zeroC, ratC, zeroE, zeroS, List.set_cons_zero, List.set_cons_succ, List.nil_append, List.cons_append, List.append_nil, List.replicate_succ, List.replicate_zero, List.length_cons, List.length_nil, splice, List.take_succ_cons, List.take_zero, List.drop_succ_cons, List.drop_zero, List.take_nil, List.drop_nil, Nat.zero_add, Nat.reduceAdd, Nat.reduceMul, Int.reduceToNat, closeB, List.getElem?_cons_succ, List.getElem?_cons_zero]
  refine call_C (ref05_Of r1.1 r1.2.1) (fun u hu => ?_)
  obtain ⟨cs, rfl, i1⟩ := hu
  refine go2 ?_
  refine call_C (ref05_Of r2.1 r2.2.1) (fun u hu => ?_)
  obtain ⟨ds, rfl, i2⟩ := hu
  obtain ⟨a, b, c, d, a', b', c', d', rfl, _⟩ := id i1.parts
  obtain ⟨e, f, g, h, e', f', g', h', rfl, _⟩ := id i2.parts
  refine go2 ?_
  simp only [spanC, zeroC, ratC, zeroE, zeroS, List.set_cons_zero, List.set_cons_succ, List.nil_append, List.cons_append, List.append_nil, List.replicate_succ, List.replicate_zero, List.length_cons, List.length_nil, splice, List.take_succ_cons, List.take_zero, List.drop_succ_cons, List.drop_zero, List.take_nil, List.drop_nil, Nat.zero_add, Nat.reduceAdd, Nat.reduceMul, Int.reduceToNat, closeB, List.getElem?_cons_succ, List.getElem?_cons_zero]
  refine semH_of_semC (ref05_Plus i1 i2 bx by' (by decide)) (fun u hu => ?_)
  obtain ⟨es, z0, rfl, i3, en⟩ := hu
  have be := (EndsAdd.bd bx by' en).up5 (by decide)
  obtain ⟨_, _, _, _, _, _, _, _, rfl, _⟩ := id i3.parts
  refine go2 ?_
  simp only [spanC, zeroC, ratC, zeroE, zeroS, List.set_cons_zero, List.set_cons_succ, List.nil_append, List.cons_append, List.append_nil, List.replicate_succ, List.replicate_zero, List.length_cons, List.length_nil, splice, List.take_succ_cons, List.take_zero, List.drop_succ_cons, List.drop_zero, List.take_nil, List.drop_nil, Nat.zero_add, Nat.reduceAdd, Nat.reduceMul, Int.reduceToNat, closeB, List.getElem?_cons_succ, List.getElem?_cons_zero]
  have hk' : kind = 0 ∨ kind = 1 ∨ kind = 2 ∨ kind = 3 := by omega
  rcases hk' with rfl | rfl | rfl | rfl
  case inl =>
    refine c_f (by simp [compare']) ?_
    refine go2 ?_
    refine c_f (by simp [compare']) ?_
    refine go2 ?_
    refine c_f (by simp [compare']) ?_
    refine go2 ?_
    have en' : Ends 0 x y z0 := en
    have hz : ¬ ((0 : Nat) = 3 ∧ zeroB y = true) := fun h => absurd h.1 (by decide)
    refine semH_of_semC (ref05_Wide i3 be (by decide) (by decide) g1 g2) (fun u hu => ?_)
    obtain ⟨fs, w, rfl, i4, w1, w2⟩ := hu
    refine go2 ?_
    refine semH_of_semC (ref05_Told i4 w1.pos w2.pos) (fun u hu => ?_)
    obtain rfl := hu
    have ans : AnsK _ x y _ (toldV w) := .of hc hz en' ⟨w.1, w.2, w1, w2, rfl⟩
    obtain ⟨s, er, he⟩ := id ans.shape
    rw [he] at ans
    rw [he]
    refine go2 ?_
    exact span_fz s er ans
  case inr.inl =>
    refine c_t (by simp [compare']) ?_
    refine go2 ?_
    refine semH_of_semC (ref05_Less i1 i2 bx by' (by decide)) (fun u hu => ?_)
    obtain ⟨es, z1, rfl, i3, en⟩ := hu
    have be := (EndsSub.bd bx by' en).up5 (by decide)
    obtain ⟨_, _, _, _, _, _, _, _, rfl, _⟩ := id i3.parts
    have en' : Ends 1 x y z1 := en
    have hz : ¬ ((1 : Nat) = 3 ∧ zeroB y = true) := fun h => absurd h.1 (by decide)
    refine go2 ?_
    simp only [spanC, zeroC, ratC, zeroE, zeroS, List.set_cons_zero, List.set_cons_succ, List.nil_append, List.cons_append, List.append_nil, List.replicate_succ, List.replicate_zero, List.length_cons, List.length_nil, splice, List.take_succ_cons, List.take_zero, List.drop_succ_cons, List.drop_zero, List.take_nil, List.drop_nil, Nat.zero_add, Nat.reduceAdd, Nat.reduceMul, Int.reduceToNat, closeB, List.getElem?_cons_succ, List.getElem?_cons_zero]
    refine semH_of_semC (ref05_Wide i3 be (by decide) (by decide) g1 g2) (fun u hu => ?_)
    obtain ⟨fs, w, rfl, i4, w1, w2⟩ := hu
    refine go2 ?_
    refine semH_of_semC (ref05_Told i4 w1.pos w2.pos) (fun u hu => ?_)
    obtain rfl := hu
    have ans : AnsK _ x y _ (toldV w) := .of hc hz en' ⟨w.1, w.2, w1, w2, rfl⟩
    obtain ⟨s, er, he⟩ := id ans.shape
    rw [he] at ans
    rw [he]
    refine go2 ?_
    exact span_fz s er ans
  case inr.inr.inl =>
    refine c_f (by simp [compare']) ?_
    refine go2 ?_
    refine c_t (by simp [compare']) ?_
    refine go2 ?_
    refine semH_of_semC (ref05_Times i1 i2 bx by' (by decide)) (fun u hu => ?_)
    obtain ⟨es, z1, rfl, i3, en⟩ := hu
    have be := (EndsMul.bd bx by' en).up5 (by decide)
    obtain ⟨_, _, _, _, _, _, _, _, rfl, _⟩ := id i3.parts
    have en' : Ends 2 x y z1 := en
    have hz : ¬ ((2 : Nat) = 3 ∧ zeroB y = true) := fun h => absurd h.1 (by decide)
    refine go2 ?_
    simp only [spanC, zeroC, ratC, zeroE, zeroS, List.set_cons_zero, List.set_cons_succ, List.nil_append, List.cons_append, List.append_nil, List.replicate_succ, List.replicate_zero, List.length_cons, List.length_nil, splice, List.take_succ_cons, List.take_zero, List.drop_succ_cons, List.drop_zero, List.take_nil, List.drop_nil, Nat.zero_add, Nat.reduceAdd, Nat.reduceMul, Int.reduceToNat, closeB, List.getElem?_cons_succ, List.getElem?_cons_zero]
    refine semH_of_semC (ref05_Wide i3 be (by decide) (by decide) g1 g2) (fun u hu => ?_)
    obtain ⟨fs, w, rfl, i4, w1, w2⟩ := hu
    refine go2 ?_
    refine semH_of_semC (ref05_Told i4 w1.pos w2.pos) (fun u hu => ?_)
    obtain rfl := hu
    have ans : AnsK _ x y _ (toldV w) := .of hc hz en' ⟨w.1, w.2, w1, w2, rfl⟩
    obtain ⟨s, er, he⟩ := id ans.shape
    rw [he] at ans
    rw [he]
    refine go2 ?_
    exact span_fz s er ans
  case inr.inr.inr =>
    refine c_f (by simp [compare']) ?_
    refine go2 ?_
    refine c_f (by simp [compare']) ?_
    refine go2 ?_
    refine c_t (by simp [compare']) ?_
    refine go2 ?_
    refine semH_of_semC (ref05_Holds (p := (0, 1)) (k := 2) i2 rq_zero by' ⟨by unfold Sz; decide, by unfold Sz; decide, by decide⟩ (by decide)) (fun u hu => ?_)
    obtain rfl := hu
    rw [holds_zero]
    cases hz0 : zeroB y
    case true =>
      refine go2 ?_
      exact span_fz ((0, 0), (0, 0)) 4 (.nil hc hz0)
    obtain ⟨n1, n2⟩ := turn_ne r2 hz0
    refine go2 ?_
    refine semH_of_semC (ref05_Over i1 i2 bx by' (by decide) n1 n2) (fun u hu => ?_)
    obtain ⟨es, z1, rfl, i3, en⟩ := hu
    obtain ⟨t, tn, en0⟩ := id en
    have be := (EndsMul.bd bx (tn.bd by') en0).up5 (by decide)
    obtain ⟨_, _, _, _, _, _, _, _, rfl, _⟩ := id i3.parts
    have en' : Ends 3 x y z1 := en
    have hz : ¬ ((3 : Nat) = 3 ∧ zeroB y = true) := fun h => by rw [hz0] at h; cases h.2
    refine go2 ?_
    simp only [spanC, zeroC, ratC, zeroE, zeroS, List.set_cons_zero, List.set_cons_succ, List.nil_append, List.cons_append, List.append_nil, List.replicate_succ, List.replicate_zero, List.length_cons, List.length_nil, splice, List.take_succ_cons, List.take_zero, List.drop_succ_cons, List.drop_zero, List.take_nil, List.drop_nil, Nat.zero_add, Nat.reduceAdd, Nat.reduceMul, Int.reduceToNat, closeB, List.getElem?_cons_succ, List.getElem?_cons_zero]
    refine semH_of_semC (ref05_Wide i3 be (by decide) (by decide) g1 g2) (fun u hu => ?_)
    obtain ⟨fs, w, rfl, i4, w1, w2⟩ := hu
    refine go2 ?_
    refine semH_of_semC (ref05_Told i4 w1.pos w2.pos) (fun u hu => ?_)
    obtain rfl := hu
    have ans : AnsK _ x y _ (toldV w) := .of hc hz en' ⟨w.1, w.2, w1, w2, rfl⟩
    obtain ⟨s, er, he⟩ := id ans.shape
    rw [he] at ans
    rw [he]
    refine go2 ?_
    exact span_fz s er ans
end Go.Proofs.YtjncgcnofiaiaaaGreat

/-
  The law of sums, differences, products and quotients: its own function.
-/
set_option linter.unusedVariables false
set_option linter.unusedSimpArgs false
namespace Go.Proofs.YtjncgcnofiaiaaaGreat
open Go.RowKit
set_option maxRecDepth 20000

theorem cm_neq' (a : Int) : compare' Cm.neq a a = false := by simp [compare']
attribute [local irreducible] compare' semH semC qLen qNil qIad qSlc qIdx ldBox ldCells stBox appX awpF awpOpsF awpDF xopF xopDF qval lval seqQ blockQ loopQ bodyF retKF cnd arith IntKind.wrap

theorem law05_done (kind : Nat) (hkd : kind ≤ 3) (x y : SP) (g : Int) : semC Tryz.prog n_law05_done [i64 kind, .agg (spanC x), .agg (spanC y), i64 g] (AnsK kind x y g) := by
  refine semC_of_awpF ok_law05_done rfl (show HFVs [i64 kind, .agg (spanC x), .agg (spanC y), i64 g] from ⟨trivial, HFL_span x, HFL_span y, trivial, trivial⟩) ?_
  have hk' : kind = 0 ∨ kind = 1 ∨ kind = 2 ∨ kind = 3 := by omega
  refine go2 ?_
  rcases hk' with rfl | rfl | rfl | rfl
  case inl =>
    refine c_t (by simp [compare']) ?_
    refine go2 ?_
    refine semH_of_semC (span_Add x y g) (fun u hu => ?_)
    obtain ⟨s, e, rfl⟩ := id hu.shape
    refine go2 ?_
    exact span_fz s e hu
  case inr.inl =>
    refine c_f (by simp [compare']) ?_
    refine go2 ?_
    refine c_t (by simp [compare']) ?_
    refine go2 ?_
    refine semH_of_semC (span_Sub x y g) (fun u hu => ?_)
    obtain ⟨s, e, rfl⟩ := id hu.shape
    refine go2 ?_
    exact span_fz s e hu
  case inr.inr.inl =>
    refine c_f (by simp [compare']) ?_
    refine go2 ?_
    refine c_f (by simp [compare']) ?_
    refine go2 ?_
    refine c_t (by simp [compare']) ?_
    refine go2 ?_
    refine semH_of_semC (span_Mul x y g) (fun u hu => ?_)
    obtain ⟨s, e, rfl⟩ := id hu.shape
    refine go2 ?_
    exact span_fz s e hu
  case inr.inr.inr =>
    refine c_f (by simp [compare']) ?_
    refine go2 ?_
    refine c_f (by simp [compare']) ?_
    refine go2 ?_
    refine c_f (by simp [compare']) ?_
    refine go2 ?_
    refine semH_of_semC (span_Div x y g) (fun u hu => ?_)
    obtain ⟨s, e, rfl⟩ := id hu.shape
    refine go2 ?_
    exact span_fz s e hu
def bxS (x : SP) : Slot := .live ⟨spanC x, T_api_Span, .rw⟩
theorem law05_SpanArith (x y : SP) (g : Int) : semC Tryz.prog n_law05_SpanArith [.agg (spanC x), .agg (spanC y), i64 g] (EqK (.c (.bool true))) := by
  refine semC_of_awpF ok_law05_SpanArith rfl (show HFVs [.agg (spanC x), .agg (spanC y), i64 g] from ⟨HFL_span x, HFL_span y, trivial, trivial⟩) ?_
  refine go2 ?_
  refine f_loop (fun n vs H => ∃ (k : Nat) (l : List SP), vs = [i64 g, .c (.ptr 0 0), .c (.ptr 1 0), i64 k] ∧ H = bxS x :: bxS y :: l.map bxS ∧ l.length = 2 * k ∧ n = 4 - k ∧ k ≤ 4) (by rfl) ⟨0, [], rfl, rfl, rfl, rfl, by omega⟩ ?_
  rintro n vs H ⟨k, l, rfl, rfl, hl, rfl, hk⟩
  refine go2 ?_
  have hk' : k = 0 ∨ k = 1 ∨ k = 2 ∨ k = 3 ∨ k = 4 := by omega
  rcases hk' with rfl | rfl | rfl | rfl | rfl
  case inl =>
    match l, hl with
    | [], _ =>
      refine c_t (by simp [compare']) ?_
      refine go2 ?_
      refine semH_of_semC (law05_done _ (by decide) x y g) (fun u hu => ?_)
      obtain ⟨s, e, rfl⟩ := id hu.shape
      refine go2 ?_
      refine semH_of_semC (ref05_Do _ (by decide) x y g) (fun u hu2 => ?_)
      obtain rfl := AnsK.det (by decide) hu2 hu
      refine go2 ?_
      simp only [spanC, zeroC, ratC, zeroE, zeroS, List.set_cons_zero, List.set_cons_succ, List.nil_append, List.cons_append, List.append_nil, List.replicate_succ, List.replicate_zero, List.length_cons, List.length_nil, splice, List.take_succ_cons, List.take_zero, List.drop_succ_cons, List.drop_zero, List.take_nil, List.drop_nil, Nat.zero_add, Nat.reduceAdd, Nat.reduceMul, Int.reduceToNat, closeB, List.getElem?_cons_succ, List.getElem?_cons_zero]
      simp only [beq_self_eq_true, Bool.and_self, cond_true, cond_false, Bool.not_true, cm_neq']
      refine go2 ?_
      simp only [beq_self_eq_true, Bool.and_self, cond_true, cond_false, Bool.not_true, cm_neq']
      refine go2 ?_
      rw [addI1 0 (by omega)]
      exact l_n (n' := 3) (by rfl) (by omega) ⟨1, [s, s], rfl, rfl, rfl, rfl, by omega⟩
  case inr.inl =>
    match l, hl with
    | [a1, a2], _ =>
      refine c_t (by simp [compare']) ?_
      refine go2 ?_
      refine semH_of_semC (law05_done _ (by decide) x y g) (fun u hu => ?_)
      obtain ⟨s, e, rfl⟩ := id hu.shape
      refine go2 ?_
      refine semH_of_semC (ref05_Do _ (by decide) x y g) (fun u hu2 => ?_)
      obtain rfl := AnsK.det (by decide) hu2 hu
      refine go2 ?_
      simp only [spanC, zeroC, ratC, zeroE, zeroS, List.set_cons_zero, List.set_cons_succ, List.nil_append, List.cons_append, List.append_nil, List.replicate_succ, List.replicate_zero, List.length_cons, List.length_nil, splice, List.take_succ_cons, List.take_zero, List.drop_succ_cons, List.drop_zero, List.take_nil, List.drop_nil, Nat.zero_add, Nat.reduceAdd, Nat.reduceMul, Int.reduceToNat, closeB, List.getElem?_cons_succ, List.getElem?_cons_zero]
      simp only [beq_self_eq_true, Bool.and_self, cond_true, cond_false, Bool.not_true, cm_neq']
      refine go2 ?_
      simp only [beq_self_eq_true, Bool.and_self, cond_true, cond_false, Bool.not_true, cm_neq']
      refine go2 ?_
      rw [addI1 1 (by omega)]
      exact l_n (n' := 2) (by rfl) (by omega) ⟨2, [a1, a2, s, s], rfl, rfl, rfl, rfl, by omega⟩
  case inr.inr.inl =>
    match l, hl with
    | [a1, a2, a3, a4], _ =>
      refine c_t (by simp [compare']) ?_
      refine go2 ?_
      refine semH_of_semC (law05_done _ (by decide) x y g) (fun u hu => ?_)
      obtain ⟨s, e, rfl⟩ := id hu.shape
      refine go2 ?_
      refine semH_of_semC (ref05_Do _ (by decide) x y g) (fun u hu2 => ?_)
      obtain rfl := AnsK.det (by decide) hu2 hu
      refine go2 ?_
      simp only [spanC, zeroC, ratC, zeroE, zeroS, List.set_cons_zero, List.set_cons_succ, List.nil_append, List.cons_append, List.append_nil, List.replicate_succ, List.replicate_zero, List.length_cons, List.length_nil, splice, List.take_succ_cons, List.take_zero, List.drop_succ_cons, List.drop_zero, List.take_nil, List.drop_nil, Nat.zero_add, Nat.reduceAdd, Nat.reduceMul, Int.reduceToNat, closeB, List.getElem?_cons_succ, List.getElem?_cons_zero]
      simp only [beq_self_eq_true, Bool.and_self, cond_true, cond_false, Bool.not_true, cm_neq']
      refine go2 ?_
      simp only [beq_self_eq_true, Bool.and_self, cond_true, cond_false, Bool.not_true, cm_neq']
      refine go2 ?_
      rw [addI1 2 (by omega)]
      exact l_n (n' := 1) (by rfl) (by omega) ⟨3, [a1, a2, a3, a4, s, s], rfl, rfl, rfl, rfl, by omega⟩
  case inr.inr.inr.inl =>
    match l, hl with
    | [a1, a2, a3, a4, a5, a6], _ =>
      refine c_t (by simp [compare']) ?_
      refine go2 ?_
      refine semH_of_semC (law05_done _ (by decide) x y g) (fun u hu => ?_)
      obtain ⟨s, e, rfl⟩ := id hu.shape
      refine go2 ?_
      refine semH_of_semC (ref05_Do _ (by decide) x y g) (fun u hu2 => ?_)
      obtain rfl := AnsK.det (by decide) hu2 hu
      refine go2 ?_
      simp only [spanC, zeroC, ratC, zeroE, zeroS, List.set_cons_zero, List.set_cons_succ, List.nil_append, List.cons_append, List.append_nil, List.replicate_succ, List.replicate_zero, List.length_cons, List.length_nil, splice, List.take_succ_cons, List.take_zero, List.drop_succ_cons, List.drop_zero, List.take_nil, List.drop_nil, Nat.zero_add, Nat.reduceAdd, Nat.reduceMul, Int.reduceToNat, closeB, List.getElem?_cons_succ, List.getElem?_cons_zero]
      simp only [beq_self_eq_true, Bool.and_self, cond_true, cond_false, Bool.not_true, cm_neq']
      refine go2 ?_
      simp only [beq_self_eq_true, Bool.and_self, cond_true, cond_false, Bool.not_true, cm_neq']
      refine go2 ?_
      rw [addI1 3 (by omega)]
      exact l_n (n' := 0) (by rfl) (by omega) ⟨4, [a1, a2, a3, a4, a5, a6, s, s], rfl, rfl, rfl, rfl, by omega⟩
  case inr.inr.inr.inr =>
    refine c_f (by simp [compare']) ?_
    refine go2 ?_
    refine semH_of_semC law05_known (fun u hu => ?_)
    obtain rfl := hu
    refine go2 ?_
    exact ⟨_, .c (.hf trivial), rfl⟩
end Go.Proofs.YtjncgcnofiaiaaaGreat

/-
  isoclinelaw05.SpanArith returns true for every input, and the arguments read afterwards as they read before. Conditions: none.
-/
set_option linter.unusedVariables false
set_option linter.unusedSimpArgs false
namespace Go.Proofs.YtjncgcnofiaiaaaGreat
open Go.ChangeShapes Go.WideShapes Go.ChangeAt Go.RowKit Go.Joins

theorem int_one : Tryz.prog.underlying T_int = some (.int .i64) := by kernel_rfl
theorem rv_int (z : Int) {c : Cx} : RV c (i64 z) (.int .i64 z) := .c (.int _ _)

set_option maxRecDepth 100000 in
theorem spanArith_lifted (os : Os) (started : os.Started) (H : Type) (enc : TypeId × Value → H) :
    ReturnsInHanded {} Tryz.checked os 3 .any (Rows.spanArithSpec.pre6 enc Tryz.prog Tryz.f3 Rows.spanArithRow.domain false) (Rows.spanArithSpec.post enc Tryz.prog Tryz.f3 false true false false) := by
  refine returnsInHanded_of_change (C := Tryz.checked) own_none started (by kernel_rfl) Tryz.func3
    (ChangeSpec.witness6 (enc := enc) (C := Tryz.checked) false ⟨#[], #[.agg #[.int .i64 0, .int .i64 0, .int .i64 0, .int .i64 0], .agg #[.int .i64 0, .int .i64 0, .int .i64 0, .int .i64 0], .int .i64 0], []⟩ 8 (by kernel_rfl) (by kernel_rfl) (by kernel_rfl) (by kernel_rfl)) ?_
  intro W base args ds gs before hval0 hW hcnd _
  have hval : ∀ (j : Nat) t v, Tryz.f3.params[j]? = some t → args[j]? = some v → Value.okWide Tryz.prog W .any base t v := hval0
  have hW' := hW
  obtain ⟨p, q, hA0, hV, rfl, hfz, hnd⟩ := hW
  have hA : DataW.TrodAll enc Tryz.prog W 0 (fun _ => true) true Tryz.f3.params.toList args.toList ds p := hA0
  rw [Tryz.params3] at hA hval
  obtain ⟨v0, v1, v2, d0, d1, d2, p0, p1, p2, rfl, rfl, rfl, h0, h1, h2⟩ := trodAll_three hA
  obtain ⟨rfl, rfl⟩ := trodVars_none hV
  have hlt : ∀ x ∈ p0 ++ p1 ++ p2, x.block < W.heap.size := fun x hx => hW'.lt x (by simpa using hx)
  obtain ⟨x, rfl⟩ := open_span rat_two span_two (hval 0 _ v0 rfl rfl) h0
  obtain ⟨y, rfl⟩ := open_span rat_two span_two (hval 1 _ v1 rfl rfl) h1
  obtain ⟨g, rfl⟩ := okWide_int int_one (hval 2 _ v2 rfl rfl)
  clear hA0 hval0
  refine ((law05_SpanArith x y g).2.2 (fun _ => False) W [_, _, _] (fun _ h => h.elim) (.cons (rv_span x) (.cons (rv_span y) (.cons (rv_int g) .nil)))).mono ?_
  rintro e W' ⟨v, u, rfl, hu, hr, hq⟩
  obtain rfl := hu
  obtain rfl := rv_true hr
  have hb := hq.below
  refine ⟨_, rfl, _, _, _, [], p0 ++ (p1 ++ p2), [], hW', ?_, ?_, rfl, hb.frame _, fun h => by cases h⟩
  · exact trodAll_mk1 (shut_bool (by kernel_rfl) true)
  · exact trodAll_mk3 (Below.trod laid_out (by kernel_rfl) (of_decide_eq_true (by kernel_rfl)) h0 hb (fun x hx => hlt x (by simp [hx]))) (Below.trod laid_out (by kernel_rfl) (of_decide_eq_true (by kernel_rfl)) h1 hb (fun x hx => hlt x (by simp [hx]))) (Below.trod laid_out (by kernel_rfl) (of_decide_eq_true (by kernel_rfl)) h2 hb (fun x hx => hlt x (by simp [hx])))

theorem spanArith_holds : Rows.SpanArithSaid :=
  OpenClaim.holds_of_wide 3 Tryz.f3 rfl rfl rfl rfl rfl rfl rfl ⟨rfl, rfl, rfl, rfl, rfl⟩ rfl rfl rfl rfl rfl (by kernel_rfl) Tryz.func3 (by kernel_rfl)
    (of_decide_eq_true (by kernel_rfl)) (by unfold Func.isWrapper; first | (rw [if_pos (by decide +kernel)]; kernel_rfl) | (rw [if_neg (by decide +kernel)]; exact ⟨rfl, rfl⟩))
    (fun os started H enc _ => spanArith_lifted os started H enc)
#print axioms spanArith_holds
end Go.Proofs.YtjncgcnofiaiaaaGreat
