/-
  span.Mul; the law's own example.
-/
import Derived.Test.YtjncgcnofiaiaaaViG
set_option linter.unusedVariables false
set_option linter.unusedSimpArgs false
namespace Go.Proofs.Ytjncgcnofiaiaaa
open Go.RowKit
set_option maxRecDepth 20000

theorem lessR_dec (p q : R2) : dec (lessR p q) = decide (p.1 * q.2 < q.1 * p.2) := by
  unfold lessR
  exact dec_decide
def kx : SP := ((-1, 1), (2, 1))
def ky : SP := ((3, 1), (4, 1))
theorem rat_one {n : Int} (h1 : -1000000000000 ≤ n) (h2 : n ≤ 1000000000000) : IsRat n 1 := ⟨by omega, by omega, h1, h2, by simp⟩
theorem kx_ok : SpanOk kx := ⟨rat_one (by decide) (by decide), rat_one (by decide) (by decide), by unfold lessR kx; decide⟩
theorem ky_ok : SpanOk ky := ⟨rat_one (by decide) (by decide), rat_one (by decide) (by decide), by unfold lessR ky; decide⟩
theorem k_check : checkV 1 [kx, ky] = i64 0 := by
  unfold checkV
  rw [check_ok]
  unfold okB
  rw [dec_true.2 ⟨kx_ok, ky_ok⟩]
  rfl
theorem k_fold : ([((-3 : Int), (1 : Int)), (-4, 1), (6, 1), (8, 1)] : List R2).foldl wider ((-3, 1), (-3, 1)) = ((-4, 1), (8, 1)) := by
  simp [wider, mnR, mxR, lessR_dec]
theorem red_one {n : Int} {p : R2} (h : Red n 1 p) : p = (n, 1) := h.eq_of (by simp) (by decide)
attribute [local irreducible] compare' semH semC qLen qNil qIad qSlc qIdx ldBox ldCells stBox appX awpF awpOpsF awpDF xopF xopDF qval lval seqQ blockQ loopQ bodyF retKF cnd arith IntKind.wrap

theorem span_Mul_known : semC Try.prog n_span_Mul [.agg (spanC kx), .agg (spanC ky), i64 1] (EqK (.tup [.agg (spanC ((-4, 1), (8, 1))), i64 0])) := by
  refine semC_of_awpF ok_span_Mul rfl (show HFVs [.agg (spanC kx), .agg (spanC ky), i64 1] from ⟨HFL_span _, HFL_span _, trivial, trivial⟩) ?_
  refine go2 ?_
  refine semH_of_semC_close [3] (.cons (.c (.hf trivial)) (.cons (.c (fz_sl (ds := [kx, ky].flatMap spanC) (by rfl) (by rfl) (by simp) (by rfl) (HFL_spans [kx, ky]))) .nil)) (span_check 1 [kx, ky] (by simp)) (fun u hu => ?_)
  obtain rfl := hu
  rw [k_check]
  simp only [spanC, zeroC, ratC, zeroE, zeroS, List.set_cons_zero, List.set_cons_succ, List.nil_append, List.cons_append, List.append_nil, List.replicate_succ, List.replicate_zero, List.length_cons, List.length_nil, splice, List.take_succ_cons, List.take_zero, List.drop_succ_cons, List.drop_zero, List.take_nil, List.drop_nil, Nat.zero_add, Nat.reduceAdd, Nat.reduceMul, Int.reduceToNat, closeB, List.getElem?_cons_succ, List.getElem?_cons_zero]
  refine go2 ?_
  refine c_f (by simp [compare']) ?_
  refine go2 ?_
  refine call_C (span_of (x := kx) kx_ok.1 kx_ok.2.1) (fun u hu => ?_)
  obtain ⟨cs, rfl, h1⟩ := hu
  refine go2 ?_
  refine call_C (span_of (x := ky) ky_ok.1 ky_ok.2.1) (fun u hu => ?_)
  obtain ⟨ds, rfl, h2⟩ := hu
  refine go2 ?_
  refine call_C (span_products (k := 2) Sm.cl quoOk_small h1 h2 kx_ok.bd ky_ok.bd (by decide) ?_) (fun u hu => ?_)
  · intro p q hp hq
    unfold Sm
    rcases hp with rfl | rfl <;> rcases hq with rfl | rfl <;> decide
  obtain ⟨es, r1, r2, r3, r4, rfl, d1, d2, d3, d4, h3⟩ := hu
  have e1 : r1 = (-3, 1) := red_one (n := -3) d1
  have e2 : r2 = (-4, 1) := red_one (n := -4) d2
  have e3 : r3 = (6, 1) := red_one (n := 6) d3
  have e4 : r4 = (8, 1) := red_one (n := 8) d4
  subst e1 e2 e3 e4
  rw [k_fold] at h3
  refine go2 ?_
  refine call_C (span_outward (k := 2) (x := ((-4, 1), (8, 1))) Sm.cl quoOk_small h3 ⟨⟨by unfold Sz; decide, by unfold Sz; decide, by decide⟩, ⟨by unfold Sz; decide, by unfold Sz; decide, by decide⟩⟩ (by decide) (by decide) (by decide) (by unfold Sm; decide) (by unfold Sm; decide) (by unfold Sm; decide) (by unfold Sm; decide) (by unfold Sm; decide)) (fun u hu => ?_)
  obtain ⟨lo, hi, d5, d6, rfl⟩ := hu
  have e5 : lo = (-4, 1) := red_one (n := -4) d5
  have e6 : hi = (8, 1) := red_one (n := 8) d6
  subst e5 e6
  have ht : toldV ((-4, 1), (8, 1)) = .tup [.agg (spanC ((-4, 1), (8, 1))), i64 0] := by
    unfold toldV fitR
    rw [dec_true.2 (by decide), dec_true.2 (by decide)]
    rfl
  rw [ht]
  refine go2 ?_
  exact ⟨_, .tup (.cons (.agg (.hf (HFL_span _))) (.cons (.c (.hf trivial)) .nil)), rfl⟩

theorem law05_known : semC Try.prog n_law05_known [] (EqK (.c (.bool true))) := by
  refine semC_of_awpF ok_law05_known rfl (show HFVs [] from trivial) ?_
  refine go2 ?_
  refine semH_of_semC span_Mul_known (fun u hu => ?_)
  obtain rfl := hu
  refine go2 ?_
  simp only [spanC, zeroC, ratC, zeroE, zeroS, List.set_cons_zero, List.set_cons_succ, List.nil_append, List.cons_append, List.append_nil, List.replicate_succ, List.replicate_zero, List.length_cons, List.length_nil, splice, List.take_succ_cons, List.take_zero, List.drop_succ_cons, List.drop_zero, List.take_nil, List.drop_nil, Nat.zero_add, Nat.reduceAdd, Nat.reduceMul, Int.reduceToNat, closeB, List.getElem?_cons_succ, List.getElem?_cons_zero]
  rw [show compare' Cm.eql 0 0 = true by simp [compare']]
  exact ⟨_, .c (.hf trivial), rfl⟩
end Go.Proofs.Ytjncgcnofiaiaaa
