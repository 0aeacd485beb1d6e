/-
  The law's own function.
-/
import Derived.Test.YtjncgcnofiaiaaaMa4
/-
  The law's own function.
-/
set_option linter.unusedVariables false
set_option linter.unusedSimpArgs false
namespace Go.Proofs.Ytjncgcnofiaiaaa
open Go.RowKit
set_option maxRecDepth 20000

theorem dec_self (a : Int) : dec (a = a) = true := dec_true.2 rfl
theorem eq_self (a : Int) : compare' Cm.eql a a = true := dec_true.2 rfl
theorem neq_self (a : Int) : compare' Cm.neq a a = false := by simp [compare']
/-- The answers' shapes. -/
theorem meet_shape (x y : SP) : ∃ (s : SP) (b : Bool) (e : Int), meetV x y = .tup [.agg (spanC s), .c (.bool b), i64 e] := by
  unfold meetV
  cases okB x y
  · exact ⟨((0, 0), (0, 0)), _, _, rfl⟩
  · cases dec (lessR (meetR x y).2 (meetR x y).1)
    · exact ⟨_, _, _, rfl⟩
    · exact ⟨((0, 0), (0, 0)), _, _, rfl⟩
theorem hull_shape (x y : SP) : ∃ (s : SP) (e : Int), hullV x y = .tup [.agg (spanC s), i64 e] := by
  unfold hullV
  cases okB x y
  · exact ⟨((0, 0), (0, 0)), _, rfl⟩
  · exact ⟨_, _, rfl⟩
theorem in_shape (x : SP) (p : R2) : ∃ (b : Bool) (e : Int), inV x p = .tup [.c (.bool b), i64 e] := by
  unfold inV
  cases dec (SpanOk x ∧ IsRat p.1 p.2)
  · exact ⟨_, _, rfl⟩
  · exact ⟨_, _, rfl⟩
attribute [local irreducible] compare' semH semC qLen qNil qIad qSlc qIdx ldBox ldCells stBox appX awpF awpOpsF awpDF xopF xopDF qval lval seqQ blockQ loopQ bodyF retKF cnd arith IntKind.wrap

theorem law05_SpanPairs (hk : semC Try.prog n_law05_known [] (EqK (.c (.bool true)))) (x y : SP) (p : R2) : semC Try.prog n_law05_SpanPairs [.agg (spanC x), .agg (spanC y), .agg (ratC p)] (EqK (.c (.bool true))) := by
  refine semC_of_awpF ok_law05_SpanPairs rfl (show HFVs [.agg (spanC x), .agg (spanC y), .agg (ratC p)] from ⟨HFL_span x, HFL_span y, HFL_rat p, trivial⟩) ?_
  obtain ⟨s, b, e, hm⟩ := meet_shape x y
  obtain ⟨t, f, hh⟩ := hull_shape x y
  obtain ⟨b', g, hi⟩ := in_shape x p
  refine go2 ?_
  refine semH_of_semC (span_Meet x y) (fun u hu => ?_)
  obtain rfl := hu
  rw [hm]
  refine go2 ?_
  refine semH_of_semC (ref05_Meet x y) (fun u hu => ?_)
  obtain rfl := hu
  rw [hm]
  refine go2 ?_
  simp only [spanC, zeroC, ratC, zeroE, zeroS, List.set_cons_zero, List.set_cons_succ, List.nil_append, List.cons_append, List.append_nil, List.replicate_succ, List.replicate_zero, List.length_cons, List.length_nil, splice, List.take_succ_cons, List.take_zero, List.drop_succ_cons, List.drop_zero, List.take_nil, List.drop_nil, Nat.zero_add, Nat.reduceAdd, Nat.reduceMul, Int.reduceToNat, closeB, List.getElem?_cons_succ, List.getElem?_cons_zero]
  simp only [beq_self_eq_true, Bool.and_self, cond_true, cond_false, Bool.not_true]
  refine go2 ?_
  simp only [beq_self_eq_true, Bool.and_self, cond_true, cond_false, Bool.not_true]
  refine go2 ?_
  simp only [neq_self]
  refine go2 ?_
  refine semH_of_semC (span_Hull x y) (fun u hu => ?_)
  obtain rfl := hu
  rw [hh]
  refine go2 ?_
  refine semH_of_semC (ref05_Hull x y) (fun u hu => ?_)
  obtain rfl := hu
  rw [hh]
  refine go2 ?_
  simp only [spanC, zeroC, ratC, zeroE, zeroS, List.set_cons_zero, List.set_cons_succ, List.nil_append, List.cons_append, List.append_nil, List.replicate_succ, List.replicate_zero, List.length_cons, List.length_nil, splice, List.take_succ_cons, List.take_zero, List.drop_succ_cons, List.drop_zero, List.take_nil, List.drop_nil, Nat.zero_add, Nat.reduceAdd, Nat.reduceMul, Int.reduceToNat, closeB, List.getElem?_cons_succ, List.getElem?_cons_zero]
  simp only [beq_self_eq_true, Bool.and_self, cond_true, cond_false, Bool.not_true]
  refine go2 ?_
  simp only [neq_self]
  refine go2 ?_
  refine semH_of_semC (span_In x p) (fun u hu => ?_)
  obtain rfl := hu
  rw [hi]
  refine go2 ?_
  refine semH_of_semC (ref05_In x p) (fun u hu => ?_)
  obtain rfl := hu
  rw [hi]
  refine go2 ?_
  simp only [beq_self_eq_true, cond_true, cond_false, Bool.not_true]
  refine go2 ?_
  simp only [eq_self]
  refine go2 ?_
  refine semH_of_semC hk (fun u hu => ?_)
  obtain rfl := hu
  refine go2 ?_
  exact ⟨_, .c (.hf trivial), rfl⟩
end Go.Proofs.Ytjncgcnofiaiaaa
