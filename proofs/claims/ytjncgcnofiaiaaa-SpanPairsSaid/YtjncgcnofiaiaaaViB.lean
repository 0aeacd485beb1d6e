/-
  Meet, Hull, In: of the program and of the reference, with the same answers.
-/
import Derived.Test.YtjncgcnofiaiaaaViA
set_option linter.unusedVariables false
set_option linter.unusedSimpArgs false
namespace Go.Proofs.Ytjncgcnofiaiaaa
open Go.RowKit
set_option maxRecDepth 20000

noncomputable def okB (x y : SP) : Bool := dec (SpanOk x ∧ SpanOk y)
noncomputable def meetR (x y : SP) : SP := (mxR x.1 y.1, mnR x.2 y.2)
noncomputable def meetV (x y : SP) : V := bif okB x y then (bif dec (lessR (meetR x y).2 (meetR x y).1) then .tup [.agg zeroC, .c (.bool false), i64 0] else .tup [.agg (spanC (meetR x y)), .c (.bool true), i64 0]) else .tup [.agg zeroC, .c (.bool false), i64 1]
noncomputable def hullR (x y : SP) : SP := [x.1, x.2, y.1, y.2].foldl wider (x.1, x.1)
noncomputable def hullV (x y : SP) : V := bif okB x y then .tup [.agg (spanC (hullR x y)), i64 0] else .tup [.agg zeroC, i64 1]
noncomputable def inV (x : SP) (p : R2) : V := bif dec (SpanOk x ∧ IsRat p.1 p.2) then .tup [.c (.bool (holdsB x p)), i64 0] else .tup [.c (.bool false), i64 1]
theorem check_ok (x y : SP) : checkB 1 [x, y] = okB x y := by
  unfold checkB okB
  rw [dec_true.2 (by decide : (1 : Int) ≤ 1 ∧ (1 : Int) ≤ 1000000), Bool.and_true]
  congr 1
  simp
theorem meet_told {x y : SP} (hx : SpanOk x) (hy : SpanOk y) : toldV (meetR x y) = .tup [.agg (spanC (meetR x y)), i64 0] := by
  unfold toldV meetR
  rw [(hx.1.mx hy.1).fit, (hx.2.1.mn hy.2.1).fit]
  rfl
theorem wider_rat {a : SP} {p : R2} (h1 : IsRat a.1.1 a.1.2) (h2 : IsRat a.2.1 a.2.2) (hp : IsRat p.1 p.2) : IsRat (wider a p).1.1 (wider a p).1.2 ∧ IsRat (wider a p).2.1 (wider a p).2.2 := ⟨h1.mn hp, h2.mx hp⟩
theorem fold_rat : ∀ {l : List R2} {a : SP}, IsRat a.1.1 a.1.2 → IsRat a.2.1 a.2.2 → (∀ p ∈ l, IsRat p.1 p.2) → IsRat (l.foldl wider a).1.1 (l.foldl wider a).1.2 ∧ IsRat (l.foldl wider a).2.1 (l.foldl wider a).2.2
  | [], _, h1, h2, _ => ⟨h1, h2⟩
  | p :: t, a, h1, h2, hl => by
    obtain ⟨w1, w2⟩ := wider_rat h1 h2 (hl p (by simp))
    exact fold_rat (l := t) w1 w2 (fun q hq => hl q (by simp [hq]))
theorem hull_rat {x y : SP} (hx : SpanOk x) (hy : SpanOk y) : IsRat (hullR x y).1.1 (hullR x y).1.2 ∧ IsRat (hullR x y).2.1 (hullR x y).2.2 :=
  fold_rat (l := [x.1, x.2, y.1, y.2]) hx.1 hx.1 (fun p hp => by
    simp at hp
    rcases hp with rfl | rfl | rfl | rfl
    · exact hx.1
    · exact hx.2.1
    · exact hy.1
    · exact hy.2.1)
theorem hull_told {x y : SP} (hx : SpanOk x) (hy : SpanOk y) : toldV (hullR x y) = .tup [.agg (spanC (hullR x y)), i64 0] := by
  obtain ⟨h1, h2⟩ := hull_rat hx hy
  unfold toldV
  rw [h1.fit, h2.fit]
  rfl
attribute [local irreducible] compare' semH semC qLen qNil qIad qSlc qIdx ldBox ldCells stBox appX awpF awpOpsF awpDF xopF xopDF qval lval seqQ blockQ loopQ bodyF retKF cnd arith IntKind.wrap

theorem span_Meet (x y : SP) : semC Try.prog n_span_Meet [.agg (spanC x), .agg (spanC y)] (EqK (meetV x y)) := by
  refine semC_of_awpF ok_span_Meet rfl (show HFVs [.agg (spanC x), .agg (spanC y)] from ⟨HFL_span x, HFL_span y, trivial⟩) ?_
  refine go2 ?_
  refine semH_of_semC_close [3] (.cons (.c (.hf trivial)) (.cons (.c (fz_sl (ds := [x, y].flatMap spanC) (by rfl) (by rfl) (by simp) (by rfl) (HFL_spans [x, y]))) .nil)) (span_check 1 [x, y] (by simp)) (fun u hu => ?_)
  obtain rfl := hu
  unfold checkV
  rw [check_ok]
  unfold EqK meetV
  cases hc : okB x y
  case false =>
    refine go2 ?_
    refine c_t (by simp [compare']) ?_
    refine go2 ?_
    exact ⟨_, .tup (.cons (.agg (.hf HFL_zero)) (.cons (.c (.hf trivial)) (.cons (.c (.hf trivial)) .nil))), rfl⟩
  case true =>
    have hok : SpanOk x ∧ SpanOk y := dec_true.1 hc
    simp only [spanC, zeroC, ratC, zeroE, zeroS, List.set_cons_zero, List.set_cons_succ, List.nil_append, List.cons_append, List.append_nil, List.replicate_succ, List.replicate_zero, List.length_cons, List.length_nil, splice, List.take_succ_cons, List.take_zero, List.drop_succ_cons, List.drop_zero, List.take_nil, List.drop_nil, Nat.zero_add, Nat.reduceAdd, Nat.reduceMul, Int.reduceToNat, closeB, List.getElem?_cons_succ, List.getElem?_cons_zero]
    refine go2 ?_
    refine c_f (by simp [compare']) ?_
    refine go2 ?_
    refine call_C (span_of hok.1.1 hok.1.2.1) (fun u hu => ?_)
    obtain ⟨cs, rfl, h1⟩ := hu
    refine go2 ?_
    refine call_C (span_of hok.2.1 hok.2.2.1) (fun u hu => ?_)
    obtain ⟨ds, rfl, h2⟩ := hu
    obtain ⟨a, b, c, d, e, f, a', b', c', d', e', f', rfl, q1, q2⟩ := h1.parts
    obtain ⟨g, h, i, j, k, l, g', h', i', j', k', l', rfl, q3, q4⟩ := h2.parts
    have bx := hok.1.bd
    have by' := hok.2.bd
    refine go2 ?_
    simp only [spanC, zeroC, ratC, zeroE, zeroS, List.set_cons_zero, List.set_cons_succ, List.nil_append, List.cons_append, List.append_nil, List.replicate_succ, List.replicate_zero, List.length_cons, List.length_nil, splice, List.take_succ_cons, List.take_zero, List.drop_succ_cons, List.drop_zero, List.take_nil, List.drop_nil, Nat.zero_add, Nat.reduceAdd, Nat.reduceMul, Int.reduceToNat, closeB, List.getElem?_cons_succ, List.getElem?_cons_zero]
    refine call_C (num_Max q1 q3 bx.lo by'.lo (by decide)) (fun u hu => ?_)
    obtain ⟨es, rfl, h3⟩ := hu
    refine go2 ?_
    refine call_C (num_Min q2 q4 bx.hi by'.hi (by decide)) (fun u hu => ?_)
    obtain ⟨fs, rfl, h4⟩ := hu
    obtain ⟨a, b, c, d, e, f, rfl, _⟩ := h3.six
    obtain ⟨a', b', c', d', e', f', rfl, _⟩ := h4.six
    refine go2 ?_
    simp only [spanC, zeroC, ratC, zeroE, zeroS, List.set_cons_zero, List.set_cons_succ, List.nil_append, List.cons_append, List.append_nil, List.replicate_succ, List.replicate_zero, List.length_cons, List.length_nil, splice, List.take_succ_cons, List.take_zero, List.drop_succ_cons, List.drop_zero, List.take_nil, List.drop_nil, Nat.zero_add, Nat.reduceAdd, Nat.reduceMul, Int.reduceToNat, closeB, List.getElem?_cons_succ, List.getElem?_cons_zero]
    refine semH_of_semC (num_Q_Cmp h3 h4 (bx.lo.mx by'.lo) (bx.hi.mn by'.hi) (by decide)) (fun u hu => ?_)
    obtain rfl := hu
    refine go2 ?_
    rw [cmp_gtr]
    have ht := meet_told hok.1 hok.2
    show cnd (dec (lessR (meetR x y).2 (meetR x y).1)) _ _
    cases hd : dec (lessR (meetR x y).2 (meetR x y).1)
    · refine go2 ?_
      refine semH_of_semC (span_told (x := meetR x y) (.of h3 h4) (bx.lo.mx by'.lo).pos (bx.hi.mn by'.hi).pos) (fun u hu => ?_)
      obtain rfl := hu
      rw [ht]
      refine go2 ?_
      exact ⟨_, .tup (.cons (.agg (.hf (HFL_span _))) (.cons (.c (.hf trivial)) (.cons (.c (.hf trivial)) .nil))), rfl⟩
    · refine go2 ?_
      exact ⟨_, .tup (.cons (.agg (.hf HFL_zero)) (.cons (.c (.hf trivial)) (.cons (.c (.hf trivial)) .nil))), rfl⟩

theorem ref05_Meet (x y : SP) : semC Try.prog n_ref05_Meet [.agg (spanC x), .agg (spanC y)] (EqK (meetV x y)) := by
  refine semC_of_awpF ok_ref05_Meet rfl (show HFVs [.agg (spanC x), .agg (spanC y)] from ⟨HFL_span x, HFL_span y, trivial⟩) ?_
  have bad : ∀ {H : Hp}, ¬ (SpanOk x ∧ SpanOk y) → ∃ e, FzV H (.tup [.agg zeroC, .c (.bool false), i64 1]) e ∧ EqK (meetV x y) e := fun h => ⟨_, .tup (.cons (.agg (.hf HFL_zero)) (.cons (.c (.hf trivial)) (.cons (.c (.hf trivial)) .nil))), by unfold EqK meetV okB; rw [dec_false.2 h]; rfl⟩
  refine go2 ?_
  refine semH_of_semC (ref05_Is x) (fun u hu => ?_)
  obtain ⟨z1, rfl, h1⟩ := hu
  cases z1
  case false =>
    refine go2 ?_
    exact bad (fun h => absurd (h1.2 h.1) (by decide))
  have r1 := h1.1 rfl
  refine go2 ?_
  refine semH_of_semC (ref05_Is y) (fun u hu => ?_)
  obtain ⟨z2, rfl, h2⟩ := hu
  cases z2
  case false =>
    refine go2 ?_
    exact bad (fun h => absurd (h2.2 h.2) (by decide))
  have r2 := h2.1 rfl
  have ho : okB x y = true := dec_true.2 ⟨r1, r2⟩
  have bx := r1.bd
  have by' := r2.bd
  refine go2 ?_
  simp only [spanC, zeroC, ratC, zeroE, zeroS, List.set_cons_zero, List.set_cons_succ, List.nil_append, List.cons_append, List.append_nil, List.replicate_succ, List.replicate_zero, List.length_cons, List.length_nil, splice, List.take_succ_cons, List.take_zero, List.drop_succ_cons, List.drop_zero, List.take_nil, List.drop_nil, Nat.zero_add, Nat.reduceAdd, Nat.reduceMul, Int.reduceToNat, closeB, List.getElem?_cons_succ, List.getElem?_cons_zero]
  refine call_C (ref05_Of r1.1 r1.2.1) (fun u hu => ?_)
  obtain ⟨cs, rfl, h3⟩ := hu
  refine go2 ?_
  refine call_C (ref05_Of r2.1 r2.2.1) (fun u hu => ?_)
  obtain ⟨ds, rfl, h4⟩ := hu
  refine go2 ?_
  refine call_C (ref05_common h3 h4 bx by' (by decide)) (fun u hu => ?_)
  obtain ⟨es, b, rfl, h5, rfl⟩ := hu
  obtain ⟨a, b, c, d, a', b', c', d', rfl, q1, q2⟩ := h5.parts
  unfold EqK meetV
  rw [ho]
  have ht := meet_told r1 r2
  show awpDF _ _ _ _ _ _ _
  refine go2 ?_
  simp only [spanC, zeroC, ratC, zeroE, zeroS, List.set_cons_zero, List.set_cons_succ, List.nil_append, List.cons_append, List.append_nil, List.replicate_succ, List.replicate_zero, List.length_cons, List.length_nil, splice, List.take_succ_cons, List.take_zero, List.drop_succ_cons, List.drop_zero, List.take_nil, List.drop_nil, Nat.zero_add, Nat.reduceAdd, Nat.reduceMul, Int.reduceToNat, closeB, List.getElem?_cons_succ, List.getElem?_cons_zero]
  cases hd : dec (lessR (meetR x y).2 (meetR x y).1)
  · have hd' : dec (¬ lessR (mnR x.2 y.2) (mxR x.1 y.1)) = true := dec_true.2 (dec_false.1 hd)
    rw [hd']
    refine go2 ?_
    refine semH_of_semC (ref05_Told (x := meetR x y) h5 (bx.lo.mx by'.lo).pos (bx.hi.mn by'.hi).pos) (fun u hu => ?_)
    obtain rfl := hu
    rw [ht]
    refine go2 ?_
    rw [show compare' Cm.eql 0 0 = true by simp [compare']]
    exact ⟨_, .tup (.cons (.agg (.hf (HFL_span _))) (.cons (.c (.hf trivial)) (.cons (.c (.hf trivial)) .nil))), rfl⟩
  · have hd' : dec (¬ lessR (mnR x.2 y.2) (mxR x.1 y.1)) = false := dec_false.2 (fun h => h (dec_true.1 hd))
    rw [hd']
    refine go2 ?_
    exact ⟨_, .tup (.cons (.agg (.hf HFL_zero)) (.cons (.c (.hf trivial)) (.cons (.c (.hf trivial)) .nil))), rfl⟩

theorem span_Hull (x y : SP) : semC Try.prog n_span_Hull [.agg (spanC x), .agg (spanC y)] (EqK (hullV x y)) := by
  refine semC_of_awpF ok_span_Hull rfl (show HFVs [.agg (spanC x), .agg (spanC y)] from ⟨HFL_span x, HFL_span y, trivial⟩) ?_
  refine go2 ?_
  refine semH_of_semC_close [3] (.cons (.c (.hf trivial)) (.cons (.c (fz_sl (ds := [x, y].flatMap spanC) (by rfl) (by rfl) (by simp) (by rfl) (HFL_spans [x, y]))) .nil)) (span_check 1 [x, y] (by simp)) (fun u hu => ?_)
  obtain rfl := hu
  unfold checkV
  rw [check_ok]
  unfold EqK hullV
  cases hc : okB x y
  case false =>
    refine go2 ?_
    refine c_t (by simp [compare']) ?_
    refine go2 ?_
    exact ⟨_, .tup (.cons (.agg (.hf HFL_zero)) (.cons (.c (.hf trivial)) .nil)), rfl⟩
  case true =>
    have hok : SpanOk x ∧ SpanOk y := dec_true.1 hc
    have ht := hull_told hok.1 hok.2
    obtain ⟨hr1, hr2⟩ := hull_rat hok.1 hok.2
    simp only [spanC, zeroC, ratC, zeroE, zeroS, List.set_cons_zero, List.set_cons_succ, List.nil_append, List.cons_append, List.append_nil, List.replicate_succ, List.replicate_zero, List.length_cons, List.length_nil, splice, List.take_succ_cons, List.take_zero, List.drop_succ_cons, List.drop_zero, List.take_nil, List.drop_nil, Nat.zero_add, Nat.reduceAdd, Nat.reduceMul, Int.reduceToNat, closeB, List.getElem?_cons_succ, List.getElem?_cons_zero]
    refine go2 ?_
    refine c_f (by simp [compare']) ?_
    refine go2 ?_
    refine semH_of_semC_close [4] (.cons (.c (fz_sl (ds := [x.1, x.2, y.1, y.2].flatMap ratC) (by rfl) (by rfl) (by simp) (by rfl) (HFL_rats _))) (.cons (.c (.hf trivial)) .nil)) (span_hull_rat (l := [x.1, x.2, y.1, y.2]) (by simp) (by simp) (fun p hp => by
      simp at hp
      rcases hp with rfl | rfl | rfl | rfl
      · exact hok.1.1
      · exact hok.1.2.1
      · exact hok.2.1
      · exact hok.2.2.1)) (fun u hu => ?_)
    obtain ⟨cs, rfl, h1⟩ := hu
    simp only [spanC, zeroC, ratC, zeroE, zeroS, List.set_cons_zero, List.set_cons_succ, List.nil_append, List.cons_append, List.append_nil, List.replicate_succ, List.replicate_zero, List.length_cons, List.length_nil, splice, List.take_succ_cons, List.take_zero, List.drop_succ_cons, List.drop_zero, List.take_nil, List.drop_nil, Nat.zero_add, Nat.reduceAdd, Nat.reduceMul, Int.reduceToNat, closeB, List.getElem?_cons_succ, List.getElem?_cons_zero]
    refine go2 ?_
    refine semH_of_semC (span_told (x := hullR x y) h1 (by have := hr1.1; omega) (by have := hr2.1; omega)) (fun u hu => ?_)
    obtain rfl := hu
    rw [ht]
    refine go2 ?_
    exact ⟨_, .tup (.cons (.agg (.hf (HFL_span _))) (.cons (.c (.hf trivial)) .nil)), rfl⟩

theorem ref05_Hull (x y : SP) : semC Try.prog n_ref05_Hull [.agg (spanC x), .agg (spanC y)] (EqK (hullV x y)) := by
  refine semC_of_awpF ok_ref05_Hull rfl (show HFVs [.agg (spanC x), .agg (spanC y)] from ⟨HFL_span x, HFL_span y, trivial⟩) ?_
  have bad : ∀ {H : Hp}, ¬ (SpanOk x ∧ SpanOk y) → ∃ e, FzV H (.tup [.agg zeroC, i64 1]) e ∧ EqK (hullV x y) e := fun h => ⟨_, .tup (.cons (.agg (.hf HFL_zero)) (.cons (.c (.hf trivial)) .nil)), by unfold EqK hullV okB; rw [dec_false.2 h]; rfl⟩
  refine go2 ?_
  refine semH_of_semC (ref05_Is x) (fun u hu => ?_)
  obtain ⟨z1, rfl, h1⟩ := hu
  cases z1
  case false =>
    refine go2 ?_
    exact bad (fun h => absurd (h1.2 h.1) (by decide))
  have r1 := h1.1 rfl
  refine go2 ?_
  refine semH_of_semC (ref05_Is y) (fun u hu => ?_)
  obtain ⟨z2, rfl, h2⟩ := hu
  cases z2
  case false =>
    refine go2 ?_
    exact bad (fun h => absurd (h2.2 h.2) (by decide))
  have r2 := h2.1 rfl
  have ho : okB x y = true := dec_true.2 ⟨r1, r2⟩
  have bx := r1.bd
  have by' := r2.bd
  have ht := hull_told r1 r2
  obtain ⟨hr1, hr2⟩ := hull_rat r1 r2
  refine go2 ?_
  simp only [spanC, zeroC, ratC, zeroE, zeroS, List.set_cons_zero, List.set_cons_succ, List.nil_append, List.cons_append, List.append_nil, List.replicate_succ, List.replicate_zero, List.length_cons, List.length_nil, splice, List.take_succ_cons, List.take_zero, List.drop_succ_cons, List.drop_zero, List.take_nil, List.drop_nil, Nat.zero_add, Nat.reduceAdd, Nat.reduceMul, Int.reduceToNat, closeB, List.getElem?_cons_succ, List.getElem?_cons_zero]
  refine call_C (ref05_Of r1.1 r1.2.1) (fun u hu => ?_)
  obtain ⟨cs, rfl, h3⟩ := hu
  refine go2 ?_
  refine call_C (ref05_Of r2.1 r2.2.1) (fun u hu => ?_)
  obtain ⟨ds, rfl, h4⟩ := hu
  obtain ⟨a, b, c, d, a', b', c', d', rfl, q1, q2⟩ := h3.parts
  obtain ⟨e, f, g, h, e', f', g', h', rfl, q3, q4⟩ := h4.parts
  refine go2 ?_
  simp only [spanC, zeroC, ratC, zeroE, zeroS, List.set_cons_zero, List.set_cons_succ, List.nil_append, List.cons_append, List.append_nil, List.replicate_succ, List.replicate_zero, List.length_cons, List.length_nil, splice, List.take_succ_cons, List.take_zero, List.drop_succ_cons, List.drop_zero, List.take_nil, List.drop_nil, Nat.zero_add, Nat.reduceAdd, Nat.reduceMul, Int.reduceToNat, closeB, List.getElem?_cons_succ, List.getElem?_cons_zero]
  refine semH_of_semC_close [5] (.cons (.c (fz_sl (ds := ([([a, b, c, d], x.1), ([a', b', c', d'], x.2), ([e, f, g, h], y.1), ([e', f', g', h'], y.2)] : List Cv).flatMap (·.1)) (by rfl) (by rfl) (by simp) (by rfl) ?_)) .nil) (ref05_least (k := 2) (l := [([a, b, c, d], x.1), ([a', b', c', d'], x.2), ([e, f, g, h], y.1), ([e', f', g', h'], y.2)]) (by simp) (by simp) ?_ (by decide)) (fun u hu => ?_)
  · exact HFL_app q1.hf (HFL_app q2.hf (HFL_app q3.hf (HFL_app q4.hf trivial)))
  · intro e he
    simp at he
    rcases he with rfl | rfl | rfl | rfl
    · exact ⟨q1, bx.lo⟩
    · exact ⟨q2, bx.hi⟩
    · exact ⟨q3, by'.lo⟩
    · exact ⟨q4, by'.hi⟩
  rw [foldV_map] at hu
  obtain ⟨es, rfl, h5⟩ := hu
  simp only [spanC, zeroC, ratC, zeroE, zeroS, List.set_cons_zero, List.set_cons_succ, List.nil_append, List.cons_append, List.append_nil, List.replicate_succ, List.replicate_zero, List.length_cons, List.length_nil, splice, List.take_succ_cons, List.take_zero, List.drop_succ_cons, List.drop_zero, List.take_nil, List.drop_nil, Nat.zero_add, Nat.reduceAdd, Nat.reduceMul, Int.reduceToNat, closeB, List.getElem?_cons_succ, List.getElem?_cons_zero]
  refine go2 ?_
  refine semH_of_semC (ref05_Told (x := hullR x y) h5 (by have := hr1.1; omega) (by have := hr2.1; omega)) (fun u hu => ?_)
  obtain rfl := hu
  rw [ht]
  unfold EqK hullV
  rw [ho]
  refine go2 ?_
  exact ⟨_, .tup (.cons (.agg (.hf (HFL_span _))) (.cons (.c (.hf trivial)) .nil)), rfl⟩

theorem span_In (x : SP) (p : R2) : semC Try.prog n_span_In [.agg (spanC x), .agg (ratC p)] (EqK (inV x p)) := by
  refine semC_of_awpF ok_span_In rfl (show HFVs [.agg (spanC x), .agg (ratC p)] from ⟨HFL_span x, HFL_rat p, trivial⟩) ?_
  have bad : ∀ {H : Hp}, ¬ (SpanOk x ∧ IsRat p.1 p.2) → ∃ e, FzV H (.tup [.c (.bool false), i64 1]) e ∧ EqK (inV x p) e := fun h => ⟨_, .tup (.cons (.c (.hf trivial)) (.cons (.c (.hf trivial)) .nil)), by unfold EqK inV; rw [dec_false.2 h]; rfl⟩
  refine go2 ?_
  refine semH_of_semC (span_Validate x) (fun u hu => ?_)
  obtain rfl := hu
  unfold errV
  cases h1 : dec (SpanOk x)
  case false =>
    refine go2 ?_
    refine c_t (by simp [compare']) ?_
    refine go2 ?_
    exact bad (fun h => dec_false.1 h1 h.1)
  have r1 := dec_true.1 h1
  refine go2 ?_
  refine c_f (by simp [compare']) ?_
  refine go2 ?_
  refine semH_of_semC (num_Valid p.1 p.2) (fun u hu => ?_)
  obtain ⟨z2, rfl, h2⟩ := hu
  cases z2
  case false =>
    refine go2 ?_
    exact bad (fun h => absurd (h2.2 h.2) (by decide))
  have r2 := h2.1 rfl
  have bx := r1.bd
  have bp := r2.bd
  have ho : dec (SpanOk x ∧ IsRat p.1 p.2) = true := dec_true.2 ⟨r1, r2⟩
  unfold EqK inV holdsB
  rw [ho]
  refine go2 ?_
  simp only [spanC, zeroC, ratC, zeroE, zeroS, List.set_cons_zero, List.set_cons_succ, List.nil_append, List.cons_append, List.append_nil, List.replicate_succ, List.replicate_zero, List.length_cons, List.length_nil, splice, List.take_succ_cons, List.take_zero, List.drop_succ_cons, List.drop_zero, List.take_nil, List.drop_nil, Nat.zero_add, Nat.reduceAdd, Nat.reduceMul, Int.reduceToNat, closeB, List.getElem?_cons_succ, List.getElem?_cons_zero]
  refine call_C (span_of r1.1 r1.2.1) (fun u hu => ?_)
  obtain ⟨cs, rfl, h3⟩ := hu
  refine go2 ?_
  refine call_C (num_Of r2) (fun u hu => ?_)
  obtain ⟨ds, rfl, h4⟩ := hu
  obtain ⟨a, b, c, d, e, f, a', b', c', d', e', f', rfl, q1, q2⟩ := h3.parts
  obtain ⟨g, h, i, j, k, l, rfl, _⟩ := h4.six
  refine go2 ?_
  simp only [spanC, zeroC, ratC, zeroE, zeroS, List.set_cons_zero, List.set_cons_succ, List.nil_append, List.cons_append, List.append_nil, List.replicate_succ, List.replicate_zero, List.length_cons, List.length_nil, splice, List.take_succ_cons, List.take_zero, List.drop_succ_cons, List.drop_zero, List.take_nil, List.drop_nil, Nat.zero_add, Nat.reduceAdd, Nat.reduceMul, Int.reduceToNat, closeB, List.getElem?_cons_succ, List.getElem?_cons_zero]
  refine semH_of_semC (num_Q_Cmp q1 h4 bx.lo bp (by decide)) (fun u hu => ?_)
  obtain rfl := hu
  refine go2 ?_
  rw [cmp_leq]
  cases d1 : dec (¬ lessR p x.1)
  · refine go2 ?_
    exact ⟨_, .tup (.cons (.c (.hf trivial)) (.cons (.c (.hf trivial)) .nil)), rfl⟩
  · refine go2 ?_
    refine semH_of_semC (num_Q_Cmp h4 q2 bp bx.hi (by decide)) (fun u hu => ?_)
    obtain rfl := hu
    refine go2 ?_
    rw [cmp_leq]
    exact ⟨_, .tup (.cons (.c (.hf trivial)) (.cons (.c (.hf trivial)) .nil)), rfl⟩

theorem ref05_In (x : SP) (p : R2) : semC Try.prog n_ref05_In [.agg (spanC x), .agg (ratC p)] (EqK (inV x p)) := by
  refine semC_of_awpF ok_ref05_In rfl (show HFVs [.agg (spanC x), .agg (ratC p)] from ⟨HFL_span x, HFL_rat p, trivial⟩) ?_
  have bad : ∀ {H : Hp}, ¬ (SpanOk x ∧ IsRat p.1 p.2) → ∃ e, FzV H (.tup [.c (.bool false), i64 1]) e ∧ EqK (inV x p) e := fun h => ⟨_, .tup (.cons (.c (.hf trivial)) (.cons (.c (.hf trivial)) .nil)), by unfold EqK inV; rw [dec_false.2 h]; rfl⟩
  refine go2 ?_
  refine semH_of_semC (ref05_Is x) (fun u hu => ?_)
  obtain ⟨z1, rfl, h1⟩ := hu
  cases z1
  case false =>
    refine go2 ?_
    exact bad (fun h => absurd (h1.2 h.1) (by decide))
  have r1 := h1.1 rfl
  refine go2 ?_
  refine semH_of_semC (ref01_Is p.1 p.2) (fun u hu => ?_)
  obtain ⟨z2, rfl, h2⟩ := hu
  cases z2
  case false =>
    refine go2 ?_
    exact bad (fun h => absurd (h2.2 h.2) (by decide))
  have r2 := h2.1 rfl
  have bx := r1.bd
  have bp := r2.bd
  have ho : dec (SpanOk x ∧ IsRat p.1 p.2) = true := dec_true.2 ⟨r1, r2⟩
  unfold EqK inV
  rw [ho]
  refine go2 ?_
  refine call_C (ref05_Of r1.1 r1.2.1) (fun u hu => ?_)
  obtain ⟨cs, rfl, h3⟩ := hu
  refine go2 ?_
  refine call_C (ref01_Of r2) (fun u hu => ?_)
  obtain ⟨ds, rfl, h4⟩ := hu
  refine go2 ?_
  refine call_C (ref05_Holds h3 h4 bx bp (by decide)) (fun u hu => ?_)
  obtain rfl := hu
  refine go2 ?_
  exact ⟨_, .tup (.cons (.c (.hf trivial)) (.cons (.c (.hf trivial)) .nil)), rfl⟩
end Go.Proofs.Ytjncgcnofiaiaaa
