/-
  Spans: hull of fractions, products, outward, Mul; the law's own example.
-/
import Derived.Test.YtjncgcnofiaiaaaViF
set_option linter.unusedVariables false
set_option linter.unusedSimpArgs false
namespace Go.Proofs.Ytjncgcnofiaiaaa
open Go.RowKit
set_option maxRecDepth 20000

def OkQ (k : Nat) (e : Cv) : Prop := IsQ e.1 e.2 ∧ Bd k e.2
theorem OkQ.len {k : Nat} {e : Cv} (h : OkQ k e) : e.1.length = 6 := by
  obtain ⟨a, b, c, d, e, f, h1, _⟩ := h.1.six
  rw [h1]
  rfl
/-- Reduced from n / d. -/
structure Red (n d : Int) (p : R2) : Prop where
  pos : 0 < p.2
  gcd : Int.gcd p.1 p.2 = 1
  eq : p.1 * d = n * p.2
  n : p.1.natAbs ≤ n.natAbs
  d : p.2.natAbs ≤ d.natAbs
theorem QRedK.red {n d : Int} {u : V} (h : QRedK n d u) : ∃ cs p, u = .agg cs ∧ IsQ cs p ∧ Red n d p := by
  obtain ⟨cs, p, h1, h2, h3, h4, h5, h6, h7⟩ := h
  exact ⟨cs, p, h1, h2, h3, h4, h5, h6, h7⟩
theorem Red.eq_of {n d : Int} {p : R2} (h : Red n d p) (hg : Int.gcd n d = 1) (hd : 0 < d) : p = (n, d) := by
  obtain ⟨e1, e2⟩ := red_uniq h.gcd hg h.pos hd h.eq
  exact Prod.ext e1 e2
theorem Red.bd {n d : Int} {p : R2} {k : Nat} (h : Red n d p) (h1 : Sz k n) (h2 : Sz k d) : Bd k p := ⟨Nat.lt_of_le_of_lt h.n h1, Nat.lt_of_le_of_lt h.d h2, h.pos⟩
attribute [local irreducible] compare' semH semC qLen qNil qIad qSlc qIdx ldBox ldCells stBox appX awpF awpOpsF awpDF xopF xopDF qval lval seqQ blockQ loopQ bodyF retKF cnd arith IntKind.wrap

theorem span_itself {cs : List C} {p : R2} (hx : IsQ cs p) : semC Try.prog n_span_itself [.agg cs] (QK p) := by
  refine semC_of_awpF ok_span_itself rfl (show HFVs [.agg cs] from ⟨hx.hf, trivial⟩) ?_
  obtain ⟨a, b, c, d, e, f, rfl, h1, h2⟩ := hx.six
  refine go2 ?_
  exact QK.fz hx

theorem span_hull_Q {k : Nat} {l : List Cv} (hl : l.length < 1073741824) (h0 : 0 < l.length) (hr : ∀ e ∈ l, OkQ k e) (hk : k ≤ 268435456) : semC Try.prog n_span_hull_num_Q [.c (.imm l.length (l.flatMap (·.1))), .c (.fn n_span_itself [])] (EK (foldV l (l[0].2, l[0].2))) := by
  refine semC_of_awpF ok_span_hull_num_Q rfl (show HFVs [.c (.imm l.length (l.flatMap (·.1))), .c (.fn n_span_itself [])] from ⟨HFL_flat (fun e he => (hr e he).1.hf), trivial, trivial⟩) ?_
  have hr0 := hr _ (getL_mem h0)
  refine go2 ?_
  refine idx_imm (by rfl) (by rfl) (by omega) (by omega) ?_
  refine go2 ?_
  refine ld_elem (i := 0) (fun e he => (hr e he).len) h0 (by omega) ?_
  refine go2 ?_
  refine idx_imm (by rfl) (by rfl) (by omega) (by omega) ?_
  refine go2 ?_
  refine ld_elem (i := 0) (fun e he => (hr e he).len) h0 (by omega) ?_
  refine go2 ?_
  refine call_C (span_itself hr0.1) (fun u hu => ?_)
  obtain ⟨cs, rfl, hp⟩ := hu
  refine go2 ?_
  refine call_C (span_itself hr0.1) (fun u hu => ?_)
  obtain ⟨ds, rfl, hq⟩ := hu
  obtain ⟨a, b, c, d, e, f, rfl, _⟩ := hp.six
  obtain ⟨a', b', c', d', e', f', rfl, _⟩ := hq.six
  refine go2 ?_
  refine f_loop (fun n vs H => ∃ (i : Nat) (es : List C) (junk : Hp), vs = [.c (.fn n_span_itself []), .c (.ptr 0 0), .c (.ptr 1 0), .c (.imm l.length (l.flatMap (·.1))), i64 l.length, i64 i] ∧ H = .live ⟨zeroE, T_span_ends, .rw⟩ :: .live ⟨es, T_span_ends, .rw⟩ :: junk ∧ n = l.length - i ∧ i ≤ l.length ∧ IsE es (foldV (l.take i) (l[0].2, l[0].2))) (by rfl) ⟨0, _, [], rfl, rfl, rfl, by omega, .of hp hq⟩ ?_
  clear hp hq
  rintro n vs H ⟨i, es, junk, rfl, rfl, rfl, h1, h2⟩
  obtain ⟨a, b, c, d, e, f, a', b', c', d', e', f', rfl, q1, q2⟩ := h2.parts
  refine go2 ?_
  cases hq : compare' Cm.lss (i : Int) (l.length : Int)
  · simp [compare'] at hq
    have ei : i = l.length := by omega
    subst ei
    rw [List.take_length] at h2
    refine go2 ?_
    exact EK.fz h2
  · simp [compare'] at hq
    have hri := hr _ (getL_mem hq)
    have hci : l[i].1.length = 6 := hri.len
    have hb : BdS k (foldV (l.take i) (l[0].2, l[0].2)) := foldV_bd ⟨hr0.2, hr0.2⟩ (fun p hp => (hr p (List.mem_of_mem_take hp)).2)
    have hf : foldV (l.take (i + 1)) (l[0].2, l[0].2) = wider (foldV (l.take i) (l[0].2, l[0].2)) l[i].2 := foldl_take hq
    have hget : ∀ {K : V → Prop} {m : Nat}, m = i → K (.agg l[i].1) → ldCells ((l.flatMap (·.1)).drop (m * 6)) true 6 K := fun hm kk => ld_elem (f := (·.1)) (fun e he => (hr e he).len) hq hm kk
    obtain ⟨w1, w2, w3, w4, w5, w6, he, _⟩ := hri.1.six
    have hvi := hri.1
    have hbi := hri.2
    rw [he] at hvi hget
    refine go2 ?_
    refine idx_imm (by rfl) (by rfl) (by omega) (by omega) ?_
    refine go2 ?_
    refine hget (by omega) ?_
    refine go2 ?_
    refine call_C (span_itself hvi) (fun u hu => ?_)
    obtain ⟨fs, rfl, hf1⟩ := hu
    refine go2 ?_
    refine call_C (num_Min q1 hf1 hb.lo hbi hk) (fun u hu => ?_)
    obtain ⟨gs, rfl, hg⟩ := hu
    refine go2 ?_
    refine call_C (span_itself hvi) (fun u hu => ?_)
    obtain ⟨fs2, rfl, hf2⟩ := hu
    refine go2 ?_
    refine call_C (num_Max q2 hf2 hb.hi hbi hk) (fun u hu => ?_)
    obtain ⟨ks, rfl, hk2⟩ := hu
    obtain ⟨a1, b1, c1, d1, e1, f1, rfl, _⟩ := hg.six
    obtain ⟨a2, b2, c2, d2, e2, f2, rfl, _⟩ := hk2.six
    refine go2 ?_
    rw [addI1 i (by omega)]
    refine l_n (by rfl) (by omega) ⟨i + 1, [a1, b1, c1, d1, e1, f1, a2, b2, c2, d2, e2, f2], _, rfl, rfl, rfl, by omega, ?_⟩
    rw [hf]
    exact .of hg hk2

/-- The products of the ends, and the least span that holds them. -/
def ProdK (x y : SP) (u : V) : Prop := ∃ cs r1 r2 r3 r4, u = .agg cs ∧ Red (x.1.1 * y.1.1) (x.1.2 * y.1.2) r1 ∧ Red (x.1.1 * y.2.1) (x.1.2 * y.2.2) r2 ∧ Red (x.2.1 * y.1.1) (x.2.2 * y.1.2) r3 ∧ Red (x.2.1 * y.2.1) (x.2.2 * y.2.2) r4 ∧ IsE cs ([r1, r2, r3, r4].foldl wider (r1, r1))
theorem span_products {S : Int → Prop} {n k : Nat} (hS : SCl S n) (hQ : QuoOk S) {cs ds : List C} {x y : SP} (hx : IsE cs x) (hy : IsE ds y) (bx : BdS k x) (by' : BdS k y) (hk : k + k ≤ 268435456) (hs : ∀ p q : R2, p = x.1 ∨ p = x.2 → q = y.1 ∨ q = y.2 → S (p.1 * q.1) ∧ S (p.2 * q.2)) : semC Try.prog n_span_products [.agg cs, .agg ds] (ProdK x y) := by
  refine semC_of_awpF ok_span_products rfl (show HFVs [.agg cs, .agg ds] from ⟨hx.hf, hy.hf, trivial⟩) ?_
  obtain ⟨a, b, c, d, e, f, a', b', c', d', e', f', rfl, q1, q2⟩ := hx.parts
  obtain ⟨g, h, i, j, o, l, g', h', i', j', o', l', rfl, q3, q4⟩ := hy.parts
  refine go3 ?_
  refine call_C (num_Q_Mul hS hQ q1 q3 bx.lo by'.lo (by omega) (hs _ _ (.inl rfl) (.inl rfl)).1 (hs _ _ (.inl rfl) (.inl rfl)).2) (fun u hu => ?_)
  obtain ⟨es, r1, rfl, i1, red1⟩ := hu.red
  refine go3 ?_
  refine call_C (num_Q_Mul hS hQ q1 q4 bx.lo by'.hi (by omega) (hs _ _ (.inl rfl) (.inr rfl)).1 (hs _ _ (.inl rfl) (.inr rfl)).2) (fun u hu => ?_)
  obtain ⟨es, r2, rfl, i2, red2⟩ := hu.red
  refine go3 ?_
  refine call_C (num_Q_Mul hS hQ q2 q3 bx.hi by'.lo (by omega) (hs _ _ (.inr rfl) (.inl rfl)).1 (hs _ _ (.inr rfl) (.inl rfl)).2) (fun u hu => ?_)
  obtain ⟨es, r3, rfl, i3, red3⟩ := hu.red
  refine go3 ?_
  refine semH_of_semC (num_Q_Mul hS hQ q2 q4 bx.hi by'.hi (by omega) (hs _ _ (.inr rfl) (.inr rfl)).1 (hs _ _ (.inr rfl) (.inr rfl)).2) (fun u hu => ?_)
  obtain ⟨es, r4, rfl, i4, red4⟩ := hu.red
  have i1' := i1
  have i2' := i2
  have i3' := i3
  have i4' := i4
  obtain ⟨p1, p2, p3, p4, p5, p6, rfl, _⟩ := i1'.six
  obtain ⟨u1, u2, u3, u4, u5, u6, rfl, _⟩ := i2'.six
  obtain ⟨v1, v2, v3, v4, v5, v6, rfl, _⟩ := i3'.six
  obtain ⟨w1, w2, w3, w4, w5, w6, rfl, _⟩ := i4'.six
  refine go3 ?_
  simp only [spanC, zeroC, ratC, zeroE, zeroS, List.set_cons_zero, List.set_cons_succ, List.nil_append, List.cons_append, List.append_nil, List.replicate_succ, List.replicate_zero, List.length_cons, List.length_nil, splice, List.take_succ_cons, List.take_zero, List.drop_succ_cons, List.drop_zero, List.take_nil, List.drop_nil, Nat.zero_add, Nat.reduceAdd, Nat.reduceMul, Int.reduceToNat, closeB, List.getElem?_cons_succ, List.getElem?_cons_zero]
  refine semH_of_semC_close [3] (.cons (.c (fz_sl (ds := ([([p1, p2, p3, p4, p5, p6], r1), ([u1, u2, u3, u4, u5, u6], r2), ([v1, v2, v3, v4, v5, v6], r3), ([w1, w2, w3, w4, w5, w6], r4)] : List Cv).flatMap (·.1)) (by rfl) (by rfl) (by simp) (by rfl) ?_)) (.cons (.c (.hf trivial)) .nil)) (span_hull_Q (k := k + k) (l := [([p1, p2, p3, p4, p5, p6], r1), ([u1, u2, u3, u4, u5, u6], r2), ([v1, v2, v3, v4, v5, v6], r3), ([w1, w2, w3, w4, w5, w6], r4)]) (by simp) (by simp) ?_ (by omega)) (fun u hu => ?_)
  · exact HFL_app i1.hf (HFL_app i2.hf (HFL_app i3.hf (HFL_app i4.hf trivial)))
  · intro e he
    simp at he
    rcases he with rfl | rfl | rfl | rfl
    · exact ⟨i1, red1.bd (bx.lo.n.mul by'.lo.n) (bx.lo.d.mul by'.lo.d)⟩
    · exact ⟨i2, red2.bd (bx.lo.n.mul by'.hi.n) (bx.lo.d.mul by'.hi.d)⟩
    · exact ⟨i3, red3.bd (bx.hi.n.mul by'.lo.n) (bx.hi.d.mul by'.lo.d)⟩
    · exact ⟨i4, red4.bd (bx.hi.n.mul by'.hi.n) (bx.hi.d.mul by'.hi.d)⟩
  rw [foldV_map] at hu
  obtain ⟨fs, rfl, hf⟩ := hu
  have hf' := hf
  obtain ⟨a1, a2, a3, a4, a5, a6, b1, b2, b3, b4, b5, b6, rfl, _⟩ := hf'.parts
  simp only [spanC, zeroC, ratC, zeroE, zeroS, List.set_cons_zero, List.set_cons_succ, List.nil_append, List.cons_append, List.append_nil, List.replicate_succ, List.replicate_zero, List.length_cons, List.length_nil, splice, List.take_succ_cons, List.take_zero, List.drop_succ_cons, List.drop_zero, List.take_nil, List.drop_nil, Nat.zero_add, Nat.reduceAdd, Nat.reduceMul, Int.reduceToNat, closeB, List.getElem?_cons_succ, List.getElem?_cons_zero]
  refine go2 ?_
  exact ⟨_, .agg (.hf hf.hf), _, r1, r2, r3, r4, rfl, red1, red2, red3, red4, hf⟩

/-- The ends rounded outward. -/
def OutwK (x : SP) (g : Int) (u : V) : Prop := ∃ lo hi, Red (x.1.1 * g / x.1.2) g lo ∧ Red (-(-(x.2.1 * g) / x.2.2)) g hi ∧ u = toldV (lo, hi)
theorem span_outward {S : Int → Prop} {n k : Nat} (hS : SCl S n) (hQ : QuoOk S) {cs : List C} {x : SP} {g : Int} (hx : IsE cs x) (bx : BdS k x) (hk : k + 1 ≤ 268435456) (g1 : 1 ≤ g) (g2 : g ≤ 1000000) (s1 : S (x.1.1 * g)) (s2 : S (x.2.1 * g)) (s3 : S x.1.2) (s4 : S x.2.2) (s5 : S g) : semC Try.prog n_span_outward [.agg cs, i64 g] (OutwK x g) := by
  refine semC_of_awpF ok_span_outward rfl (show HFVs [.agg cs, i64 g] from ⟨hx.hf, trivial, trivial⟩) ?_
  obtain ⟨a, b, c, d, e, f, a', b', c', d', e', f', rfl, q1, q2⟩ := hx.parts
  refine go2 ?_
  refine call_C (num_Q_Down hS hQ q1 bx.lo hk g1 g2 s1 s3 s5) (fun u hu => ?_)
  obtain ⟨es, lo, rfl, i1, red1⟩ := hu.red
  refine go2 ?_
  refine call_C (num_Q_Up hS hQ q2 bx.hi hk g1 g2 s2 s4 s5) (fun u hu => ?_)
  obtain ⟨fs, hi, rfl, i2, red2⟩ := hu.red
  obtain ⟨a1, a2, a3, a4, a5, a6, rfl, _⟩ := i1.six
  obtain ⟨b1, b2, b3, b4, b5, b6, rfl, _⟩ := i2.six
  refine go2 ?_
  refine call_C (span_told (x := (lo, hi)) (.of i1 i2) red1.pos red2.pos) (fun u hu => ?_)
  obtain rfl := hu
  unfold toldV
  cases hf : fitR lo && fitR hi
  · refine go2 ?_
    exact ⟨_, .tup (.cons (.agg (.hf HFL_zero)) (.cons (.c (.hf trivial)) .nil)), lo, hi, red1, red2, by unfold toldV; rw [hf]; rfl⟩
  · refine go2 ?_
    exact ⟨_, .tup (.cons (.agg (.hf (HFL_span _))) (.cons (.c (.hf trivial)) .nil)), lo, hi, red1, red2, by unfold toldV; rw [hf]; rfl⟩
end Go.Proofs.Ytjncgcnofiaiaaa
