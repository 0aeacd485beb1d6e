/-
  isoclinelaw05.SpanAlone returns true for every input, and the arguments read afterwards as they read before. Conditions: none.
-/
import Derived.Test.YtjncgcnofiaiaaaGreatMc5
import Derived.Test.YtjncgcnofiaiaaaGreatMc4
/-
  Which spans there are, rounding outward, powers and halves: the program's and the document's.
-/
set_option linter.unusedVariables false
set_option linter.unusedSimpArgs false
namespace Go.Proofs.YtjncgcnofiaiaaaGreat
open Go.RowKit
set_option maxRecDepth 20000

def OkOut (x : SP) (g : Int) : Prop := SpanOk x ∧ 1 ≤ g ∧ g ≤ 1000000
def AnsOut (x : SP) (g : Int) (u : V) : Prop := (¬ OkOut x g → u = .tup [.agg (spanC ((0, 0), (0, 0))), i64 1]) ∧ (OkOut x g → OutwK x g u)
def OkPow (x : SP) (n g : Int) : Prop := SpanOk x ∧ 0 ≤ n ∧ n ≤ 12 ∧ 1 ≤ g ∧ g ≤ 1000000
def AnsPow (x : SP) (n g : Int) (u : V) : Prop := (¬ OkPow x n g → u = .tup [.agg (spanC ((0, 0), (0, 0))), i64 1]) ∧ (OkPow x n g → OutwK (powS x n.toNat) g u)
def Mid (x : SP) (m : R2) : Prop := 0 < m.2 ∧ Int.gcd m.1 m.2 = 1 ∧ m.1 * 2 * (x.1.2 * x.2.2) = (x.1.1 * x.2.2 + x.2.1 * x.1.2) * m.2
noncomputable def halvV (x : SP) (m : R2) : V := bif fitR m then .tup [.agg (spanC (x.1, m)), .agg (spanC (m, x.2)), i64 0] else .tup [.agg (spanC ((0, 0), (0, 0))), .agg (spanC ((0, 0), (0, 0))), i64 3]
def AnsHalv (x : SP) (u : V) : Prop := (¬ SpanOk x → u = .tup [.agg (spanC ((0, 0), (0, 0))), .agg (spanC ((0, 0), (0, 0))), i64 1]) ∧ (SpanOk x → ∃ m, Mid x m ∧ u = halvV x m)
theorem AnsOut.det {x : SP} {g : Int} {u v : V} (h1 : AnsOut x g u) (h2 : AnsOut x g v) : u = v := by
  by_cases h : OkOut x g
  · exact (h1.2 h).det h.2.1 (h2.2 h)
  · rw [h1.1 h, h2.1 h]
theorem AnsPow.det {x : SP} {n g : Int} {u v : V} (h1 : AnsPow x n g u) (h2 : AnsPow x n g v) : u = v := by
  by_cases h : OkPow x n g
  · exact (h1.2 h).det h.2.2.2.1 (h2.2 h)
  · rw [h1.1 h, h2.1 h]
theorem AnsOut.shape {x : SP} {g : Int} {u : V} (h : AnsOut x g u) : ∃ (s : SP) (e : Int), u = .tup [.agg (spanC s), i64 e] := by
  by_cases hk : OkOut x g
  · exact (h.2 hk).shape
  · exact ⟨((0, 0), (0, 0)), 1, h.1 hk⟩
theorem AnsPow.shape {x : SP} {n g : Int} {u : V} (h : AnsPow x n g u) : ∃ (s : SP) (e : Int), u = .tup [.agg (spanC s), i64 e] := by
  by_cases hk : OkPow x n g
  · exact (h.2 hk).shape
  · exact ⟨((0, 0), (0, 0)), 1, h.1 hk⟩
theorem Mid.uniq {x : SP} {m m' : R2} (hx : SpanOk x) (h1 : Mid x m) (h2 : Mid x m') : m = m' := by
  obtain ⟨a1, a2, a3⟩ := h1
  obtain ⟨b1, b2, b3⟩ := h2
  have hd := Int.mul_pos hx.two.1 hx.two.2
  have e : m.1 * m'.2 = m'.1 * m.2 := by
    have c1 := congrArg (· * m'.2) a3
    have c2 := congrArg (· * m.2) b3
    have : (m.1 * m'.2) * (2 * (x.1.2 * x.2.2)) = (m'.1 * m.2) * (2 * (x.1.2 * x.2.2)) := by grind
    exact Int.eq_of_mul_eq_mul_right (by omega) this
  obtain ⟨e1, e2⟩ := red_uniq a2 b2 a1 b1 e
  exact Prod.ext e1 e2
theorem AnsHalv.det {x : SP} {u v : V} (h1 : AnsHalv x u) (h2 : AnsHalv x v) : u = v := by
  by_cases h : SpanOk x
  · obtain ⟨m, a, rfl⟩ := h1.2 h
    obtain ⟨m', b, rfl⟩ := h2.2 h
    rw [a.uniq h b]
  · rw [h1.1 h, h2.1 h]
theorem AnsHalv.shape {x : SP} {u : V} (h : AnsHalv x u) : ∃ (s t : SP) (e : Int), u = .tup [.agg (spanC s), .agg (spanC t), i64 e] := by
  by_cases hk : SpanOk x
  · obtain ⟨m, _, rfl⟩ := h.2 hk
    unfold halvV
    cases fitR m
    · exact ⟨((0, 0), (0, 0)), ((0, 0), (0, 0)), _, rfl⟩
    · exact ⟨_, _, _, rfl⟩
  · exact ⟨((0, 0), (0, 0)), ((0, 0), (0, 0)), _, h.1 hk⟩
theorem halves_fz (s t : SP) (e : Int) {H : Hp} {K : V → Prop} (k : K (.tup [.agg (spanC s), .agg (spanC t), i64 e])) : ∃ d, FzV H (.tup [.agg (spanC s), .agg (spanC t), i64 e]) d ∧ K d := ⟨_, .tup (.cons (.agg (.hf (HFL_span s))) (.cons (.agg (.hf (HFL_span t))) (.cons (.c (.hf trivial)) .nil))), k⟩
theorem check_one (g : Int) (x : SP) : checkB g [x] = dec (OkOut x g) := by
  unfold checkB OkOut
  cases h : dec (SpanOk x ∧ 1 ≤ g ∧ g ≤ 1000000)
  · rw [Bool.and_eq_false_iff]
    have := dec_false.1 h
    by_cases hx : SpanOk x
    · exact .inr (dec_false.2 fun hh => this ⟨hx, hh⟩)
    · exact .inl (dec_false.2 fun hh => hx (hh x (by simp)))
  · rw [Bool.and_eq_true]
    have := dec_true.1 h
    exact ⟨dec_true.2 (fun y hy => by simp at hy; subst hy; exact this.1), dec_true.2 this.2⟩
theorem rem_two (n : Nat) : arith .rem .i64 (n : Int) 2 = ((n % 2 : Nat) : Int) := by
  show Int.tmod (n : Int) 2 = _
  rw [Int.tmod_eq_emod_of_nonneg (by omega)]
  omega
attribute [local irreducible] compare' semH semC qLen qNil qIad qSlc qIdx ldBox ldCells stBox appX awpF awpOpsF awpDF xopF xopDF qval lval seqQ blockQ loopQ bodyF retKF cnd arith IntKind.wrap

theorem outward32 {cs : List C} {x : SP} {g : Int} (hx : IsE cs x) (bx : BdS 32 x) (g1 : 1 ≤ g) (g2 : g ≤ 1000000) : semC Tryz.prog n_span_outward [.agg cs, i64 g] (OutwK x g) :=
  span_outward (k := 32) hS64 hQ64 hx bx (by decide) g1 g2 ((bx.lo.n.mul2 (grid_sz g1 g2)).up (by decide)) ((bx.hi.n.mul2 (grid_sz g1 g2)).up (by decide)) (bx.lo.d.up (by decide)) (bx.hi.d.up (by decide)) ((grid_sz g1 g2).up (by decide))

theorem span_Out (x : SP) (g : Int) : semC Tryz.prog n_span_Out [.agg (spanC x), i64 g] (AnsOut x g) := by
  refine semC_of_awpF ok_span_Out rfl (show HFVs [.agg (spanC x), i64 g] from ⟨HFL_span x, trivial, trivial⟩) ?_
  refine go2 ?_
  refine semH_of_semC_close [2] (.cons (.c (.hf trivial)) (.cons (.c (fz_sl (ds := [x].flatMap spanC) (by rfl) (by rfl) (by simp) (by rfl) (HFL_spans [x]))) .nil)) (span_check g [x] (by simp)) (fun u hu => ?_)
  obtain rfl := hu
  unfold checkV
  rw [check_one]
  cases hc : dec (OkOut x g)
  case false =>
    refine go2 ?_
    refine c_t (by simp [compare']) ?_
    refine go2 ?_
    exact span_fz ((0, 0), (0, 0)) 1 ⟨fun _ => rfl, fun h => absurd h (dec_false.1 hc)⟩
  have ok := dec_true.1 hc
  simp only [spanC, zeroC, ratC, zeroE, zeroS, List.set_cons_zero, List.set_cons_succ, List.nil_append, List.cons_append, List.append_nil, List.replicate_succ, List.replicate_zero, List.length_cons, List.length_nil, splice, List.take_succ_cons, List.take_zero, List.drop_succ_cons, List.drop_zero, List.take_nil, List.drop_nil, Nat.zero_add, Nat.reduceAdd, Nat.reduceMul, Int.reduceToNat, closeB, List.getElem?_cons_succ, List.getElem?_cons_zero]
  refine go2 ?_
  refine c_f (by simp [compare']) ?_
  refine go2 ?_
  refine semH_of_semC (span_of ok.1.1 ok.1.2.1) (fun u hu => ?_)
  obtain ⟨cs, rfl, i1⟩ := hu
  refine go2 ?_
  refine semH_of_semC (outward8 i1 (ok.1.bd.up5 (by decide)) ok.2.1 ok.2.2) (fun u hu => ?_)
  obtain ⟨s, er, rfl⟩ := id hu.shape
  refine go2 ?_
  exact span_fz s er ⟨fun h => absurd ok h, fun _ => hu⟩
theorem ref05_Out (x : SP) (g : Int) : semC Tryz.prog n_ref05_Out [.agg (spanC x), i64 g] (AnsOut x g) := by
  refine semC_of_awpF ok_ref05_Out rfl (show HFVs [.agg (spanC x), i64 g] from ⟨HFL_span x, trivial, trivial⟩) ?_
  have bad : ∀ {H : Hp}, ¬ OkOut x g → ∃ e, FzV H (.tup [.agg (spanC ((0, 0), (0, 0))), i64 1]) e ∧ AnsOut x g e := fun h => span_fz ((0, 0), (0, 0)) 1 ⟨fun _ => rfl, fun h' => absurd h' h⟩
  refine go2 ?_
  refine semH_of_semC (ref05_Is x) (fun u hu => ?_)
  obtain ⟨z1, rfl, h1⟩ := hu
  cases z1
  case false =>
    refine go2 ?_
    exact bad (fun h => absurd (h1.2 h.1) (by decide))
  have r1 := h1.1 rfl
  refine go2 ?_
  refine semH_of_semC (ref01_IsGrid g) (fun u hu => ?_)
  obtain ⟨z3, rfl, h3⟩ := hu
  cases z3
  case false =>
    refine go2 ?_
    exact bad (fun h => absurd (h3.2 h.2) (by decide))
  obtain ⟨g1, g2⟩ := h3.1 rfl
  have ok : OkOut x g := ⟨r1, g1, g2⟩
  refine go2 ?_
  refine semH_of_semC (ref05_Of r1.1 r1.2.1) (fun u hu => ?_)
  obtain ⟨cs, rfl, i3⟩ := hu
  have be := r1.bd
  refine go2 ?_
  refine semH_of_semC (ref05_Wide i3 be (by decide) (by decide) g1 g2) (fun u hu => ?_)
  obtain ⟨fs, w, rfl, i4, w1, w2⟩ := hu
  refine go2 ?_
  refine semH_of_semC (ref05_Told i4 w1.pos w2.pos) (fun u hu => ?_)
  obtain rfl := hu
  have ans : OutwK x g (toldV w) := ⟨w.1, w.2, w1, w2, rfl⟩
  obtain ⟨s, er, he⟩ := id ans.shape
  rw [he] at ans
  rw [he]
  refine go2 ?_
  exact span_fz s er ⟨fun h => absurd ok h, fun _ => ans⟩

theorem ref05_Validate (x : SP) : semC Tryz.prog n_ref05_Validate [.agg (spanC x)] (EqK (errV x)) := by
  refine semC_of_awpF ok_ref05_Validate rfl (show HFVs [.agg (spanC x)] from ⟨HFL_span x, trivial⟩) ?_
  unfold errV
  refine go2 ?_
  refine semH_of_semC (ref05_Is x) (fun u hu => ?_)
  obtain ⟨z1, rfl, h1⟩ := hu
  cases z1
  case false =>
    rw [dec_false.2 (fun h => absurd (h1.2 h) (by decide))]
    refine go2 ?_
    exact ⟨_, .c (.hf trivial), rfl⟩
  rw [dec_true.2 (h1.1 rfl)]
  refine go2 ?_
  exact ⟨_, .c (.hf trivial), rfl⟩

theorem span_Halves2 (x : SP) : semC Tryz.prog n_span_Halves [.agg (spanC x)] (AnsHalv x) := by
  refine semC_of_awpF ok_span_Halves rfl (show HFVs [.agg (spanC x)] from ⟨HFL_span x, trivial⟩) ?_
  refine go2 ?_
  refine semH_of_semC (span_Validate x) (fun u hu => ?_)
  obtain rfl := hu
  unfold errV
  cases h1 : dec (SpanOk x)
  case false =>
    refine go2 ?_
    refine c_t (by simp [compare']) ?_
    refine go2 ?_
    exact halves_fz ((0, 0), (0, 0)) ((0, 0), (0, 0)) 1 ⟨fun _ => rfl, fun h => absurd h (dec_false.1 h1)⟩
  have ok := dec_true.1 h1
  refine go2 ?_
  refine c_f (by simp [compare']) ?_
  refine go2 ?_
  refine semH_of_semC (span_of ok.1 ok.2.1) (fun u hu => ?_)
  obtain ⟨cs, rfl, i1⟩ := hu
  obtain ⟨a, b, c, d, e, f, a', b', c', d', e', f', rfl, _⟩ := id i1.parts
  refine go2 ?_
  refine semH_of_semC (span_middle hS64 hQ64 i1 ok.bd (by decide) (fun z hz => hz.up (by decide))) (fun u hu => ?_)
  obtain ⟨ds, m, rfl, i2, m1, m2, m3⟩ := hu
  obtain ⟨a, b, c, d, e, f, rfl, _⟩ := id i2.six
  have hm : Mid x m := ⟨m1, m2, m3⟩
  refine go2 ?_
  refine semH_of_semC (num_Q_Out i2 m1) (fun u hu => ?_)
  obtain rfl := hu
  unfold outV
  cases f1 : fitR m
  · refine go2 ?_
    exact halves_fz ((0, 0), (0, 0)) ((0, 0), (0, 0)) 3 ⟨fun h => absurd ok h, fun _ => ⟨m, hm, by unfold halvV; rw [f1]; rfl⟩⟩
  · refine go2 ?_
    simp only [spanC, zeroC, ratC, zeroE, zeroS, List.set_cons_zero, List.set_cons_succ, List.nil_append, List.cons_append, List.append_nil, List.replicate_succ, List.replicate_zero, List.length_cons, List.length_nil, splice, List.take_succ_cons, List.take_zero, List.drop_succ_cons, List.drop_zero, List.take_nil, List.drop_nil, Nat.zero_add, Nat.reduceAdd, Nat.reduceMul, Int.reduceToNat, closeB, List.getElem?_cons_succ, List.getElem?_cons_zero]
    exact halves_fz (x.1, m) (m, x.2) 0 ⟨fun h => absurd ok h, fun _ => ⟨m, hm, by unfold halvV; rw [f1]; rfl⟩⟩
theorem ref01_Half : semC Tryz.prog n_ref01_Half [i64 1, i64 2] (RRK 1 2) := by
  refine semC_of_awpF ok_ref01_Half rfl (show HFVs [i64 1, i64 2] from ⟨trivial, trivial, trivial⟩) ?_
  refine go2 ?_
  refine semH_of_semC (ref01_ofInt (v := 1) (by omega) (by omega)) (fun u hu => ?_)
  obtain ⟨cs, rfl, h1⟩ := hu
  refine go2 ?_
  refine semH_of_semC (ref01_ofInt (v := 2) (by omega) (by omega)) (fun u hu => ?_)
  obtain ⟨ds, rfl, h2⟩ := hu
  refine go2 ?_
  refine semH_of_semC (ref01_ratio (k := 1) h1 h2 (by unfold Sz; decide) (by unfold Sz; decide) (by decide) (by decide)) (fun u hu => ?_)
  obtain ⟨es, p, rfl, i1, red⟩ := hu.rr
  obtain ⟨_, _, _, _, _, rfl, _⟩ := id i1.four
  refine go2 ?_
  exact RRK.fz i1 red
def MidRK (x : SP) (u : V) : Prop := ∃ cs m, u = .agg cs ∧ IsRQ cs m.1 m.2 ∧ Mid x m
theorem ref05_middle {cs : List C} {x : SP} (hx : IsS cs x) (bx : BdS 2 x) : semC Tryz.prog n_ref05_middle [.agg cs] (MidRK x) := by
  refine semC_of_awpF ok_ref05_middle rfl (show HFVs [.agg cs] from ⟨hx.hf, trivial⟩) ?_
  obtain ⟨a, b, c, d, a', b', c', d', rfl, q1, q2⟩ := id hx.parts
  refine go2 ?_
  refine semH_of_semC (ref01_Q_Add q1 q2 bx.lo bx.hi (by decide)) (fun u hu => ?_)
  obtain ⟨es, r, rfl, j1, red1⟩ := hu
  have b1 : Bd 5 r := red1.bd ((bx.lo.n.mul bx.hi.d).add (bx.hi.n.mul bx.lo.d)) ((bx.lo.d.mul bx.hi.d).up (by decide))
  refine go2 ?_
  refine semH_of_semC ref01_Half (fun u hu => ?_)
  obtain ⟨fs, h, rfl, j2, redh⟩ := hu
  obtain rfl := redh.eq_of (by decide) (by decide)
  refine go2 ?_
  refine semH_of_semC (ref01_Q_Mul j1 j2 b1 ⟨by unfold Sz; decide, by unfold Sz; decide, by decide⟩ (by decide)) (fun u hu => ?_)
  obtain ⟨gs, m, rfl, j3, red2⟩ := hu
  have hm := red2.eq
  simp only [Int.mul_one] at hm
  obtain ⟨_, _, _, _, _, rfl, _⟩ := id j3.four
  refine go2 ?_
  exact ⟨_, .agg (.hf j3.hf), _, m, rfl, j3, red2.pos, red2.gcd, mid_rel red1.pos red1.eq hm⟩
theorem ref05_Halves (x : SP) : semC Tryz.prog n_ref05_Halves [.agg (spanC x)] (AnsHalv x) := by
  refine semC_of_awpF ok_ref05_Halves rfl (show HFVs [.agg (spanC x)] from ⟨HFL_span x, trivial⟩) ?_
  refine go2 ?_
  refine semH_of_semC (ref05_Is x) (fun u hu => ?_)
  obtain ⟨z1, rfl, h1⟩ := hu
  cases z1
  case false =>
    refine go2 ?_
    exact halves_fz ((0, 0), (0, 0)) ((0, 0), (0, 0)) 1 ⟨fun _ => rfl, fun h => absurd (h1.2 h) (by decide)⟩
  have ok := h1.1 rfl
  refine go2 ?_
  refine semH_of_semC (ref05_Of ok.1 ok.2.1) (fun u hu => ?_)
  obtain ⟨cs, rfl, i1⟩ := hu
  obtain ⟨_, _, _, _, _, _, _, _, rfl, _⟩ := id i1.parts
  refine go2 ?_
  refine semH_of_semC (ref05_middle i1 ok.bd) (fun u hu => ?_)
  obtain ⟨ds, m, rfl, i2, hm⟩ := hu
  obtain ⟨_, _, _, _, _, rfl, _⟩ := id i2.four
  refine go2 ?_
  refine semH_of_semC (ref01_Rat i2 hm.1) (fun u hu => ?_)
  obtain rfl := hu
  unfold outV
  cases f1 : fitR m
  · refine go2 ?_
    exact halves_fz ((0, 0), (0, 0)) ((0, 0), (0, 0)) 3 ⟨fun h => absurd ok h, fun _ => ⟨m, hm, by unfold halvV; rw [f1]; rfl⟩⟩
  · refine go2 ?_
    simp only [spanC, zeroC, ratC, zeroE, zeroS, List.set_cons_zero, List.set_cons_succ, List.nil_append, List.cons_append, List.append_nil, List.replicate_succ, List.replicate_zero, List.length_cons, List.length_nil, splice, List.take_succ_cons, List.take_zero, List.drop_succ_cons, List.drop_zero, List.take_nil, List.drop_nil, Nat.zero_add, Nat.reduceAdd, Nat.reduceMul, Int.reduceToNat, closeB, List.getElem?_cons_succ, List.getElem?_cons_zero]
    exact halves_fz (x.1, m) (m, x.2) 0 ⟨fun h => absurd ok h, fun _ => ⟨m, hm, by unfold halvV; rw [f1]; rfl⟩⟩

theorem span_Power (x : SP) (n g : Int) : semC Tryz.prog n_span_Power [.agg (spanC x), i64 n, i64 g] (AnsPow x n g) := by
  refine semC_of_awpF ok_span_Power rfl (show HFVs [.agg (spanC x), i64 n, i64 g] from ⟨HFL_span x, trivial, trivial, trivial⟩) ?_
  have bad : ∀ {H : Hp}, ¬ OkPow x n g → ∃ e, FzV H (.tup [.agg (spanC ((0, 0), (0, 0))), i64 1]) e ∧ AnsPow x n g e := fun h => span_fz ((0, 0), (0, 0)) 1 ⟨fun _ => rfl, fun h' => absurd h' h⟩
  refine go2 ?_
  refine semH_of_semC (span_Validate x) (fun u hu => ?_)
  obtain rfl := hu
  unfold errV
  cases h1 : dec (SpanOk x)
  case false =>
    refine go2 ?_
    refine c_t (by simp [compare']) ?_
    refine go2 ?_
    exact bad (fun h => (dec_false.1 h1) h.1)
  have ok := dec_true.1 h1
  refine go2 ?_
  refine c_f (by simp [compare']) ?_
  refine go2 ?_
  cases h2 : compare' Cm.lss n 0
  case true =>
    simp [compare'] at h2
    refine go2 ?_
    exact bad (fun h => by have := h.2.1; omega)
  simp [compare'] at h2
  refine go2 ?_
  cases h3 : compare' Cm.gtr n 12
  case true =>
    simp [compare'] at h3
    refine go2 ?_
    exact bad (fun h => by have := h.2.2.1; omega)
  simp [compare'] at h3
  refine go2 ?_
  cases h4 : compare' Cm.lss g 1
  case true =>
    simp [compare'] at h4
    refine go2 ?_
    exact bad (fun h => by have := h.2.2.2.1; omega)
  simp [compare'] at h4
  refine go2 ?_
  cases h5 : compare' Cm.gtr g 1000000
  case true =>
    simp [compare'] at h5
    refine go2 ?_
    exact bad (fun h => by have := h.2.2.2.2; omega)
  simp [compare'] at h5
  clear bad
  have okp : OkPow x n g := ⟨ok, h2, h3, h4, h5⟩
  obtain ⟨m, rfl⟩ := Int.eq_ofNat_of_zero_le h2
  have g1 := ok.1.good
  have g2 := ok.2.1.good
  have bx := ok.bd
  have hm : m ≤ 12 := by omega
  have bp := pow_bd g1 g2 bx hm
  have b1 := pw_bd32 g1 bx.lo hm
  have b2 := pw_bd32 g2 bx.hi hm
  have b0 : Bd 32 ((0, 1) : R2) := ⟨by unfold Sz; decide, by unfold Sz; decide, by decide⟩
  refine go2 ?_
  refine semH_of_semC (span_of ok.1 ok.2.1) (fun u hu => ?_)
  obtain ⟨cs, rfl, i1⟩ := hu
  obtain ⟨a, b, c, d, e, f, a', b', c', d', e', f', rfl, q1, q2⟩ := id i1.parts
  refine go2 ?_
  simp only [spanC, zeroC, ratC, zeroE, zeroS, List.set_cons_zero, List.set_cons_succ, List.nil_append, List.cons_append, List.append_nil, List.replicate_succ, List.replicate_zero, List.length_cons, List.length_nil, splice, List.take_succ_cons, List.take_zero, List.drop_succ_cons, List.drop_zero, List.take_nil, List.drop_nil, Nat.zero_add, Nat.reduceAdd, Nat.reduceMul, Int.reduceToNat, closeB, List.getElem?_cons_succ, List.getElem?_cons_zero]
  refine call_C (num_Q_Pow m q1 bx.lo g1 hm) (fun u hu => ?_)
  obtain ⟨es, rfl, j1⟩ := hu
  refine go2 ?_
  refine call_C (num_Q_Pow m q2 bx.hi g2 hm) (fun u hu => ?_)
  obtain ⟨fs, rfl, j2⟩ := hu
  obtain ⟨p1, p2, p3, p4, p5, p6, rfl, _⟩ := id j1.six
  obtain ⟨u1, u2, u3, u4, u5, u6, rfl, _⟩ := id j2.six
  refine go2 ?_
  simp only [spanC, zeroC, ratC, zeroE, zeroS, List.set_cons_zero, List.set_cons_succ, List.nil_append, List.cons_append, List.append_nil, List.replicate_succ, List.replicate_zero, List.length_cons, List.length_nil, splice, List.take_succ_cons, List.take_zero, List.drop_succ_cons, List.drop_zero, List.take_nil, List.drop_nil, Nat.zero_add, Nat.reduceAdd, Nat.reduceMul, Int.reduceToNat, closeB, List.getElem?_cons_succ, List.getElem?_cons_zero]
  cases h6 : compare' Cm.gtr (m : Int) 0
  case false =>
    simp [compare'] at h6
    have hw := pow_none (x := x) (n := m) (fun h => by have := h.1; omega)
    refine go2 ?_
    try simp only [spanC, zeroC, ratC, zeroE, zeroS, List.set_cons_zero, List.set_cons_succ, List.nil_append, List.cons_append, List.append_nil, List.replicate_succ, List.replicate_zero, List.length_cons, List.length_nil, splice, List.take_succ_cons, List.take_zero, List.drop_succ_cons, List.drop_zero, List.take_nil, List.drop_nil, Nat.zero_add, Nat.reduceAdd, Nat.reduceMul, Int.reduceToNat, closeB, List.getElem?_cons_succ, List.getElem?_cons_zero]
    refine semH_of_semC_close [3] (.cons (.c (fz_sl (ds := ([([p1, p2, p3, p4, p5, p6], pw x.1 m), ([u1, u2, u3, u4, u5, u6], pw x.2 m)] : List Cv).flatMap (·.1)) (by rfl) (by rfl) (by simp) (by rfl) ?_)) (.cons (.c (.hf trivial)) .nil)) (span_hull_Q (k := 32) (l := [([p1, p2, p3, p4, p5, p6], pw x.1 m), ([u1, u2, u3, u4, u5, u6], pw x.2 m)]) (by simp) (by simp) ?_ (by decide)) (fun u hu => ?_)
    · exact HFL_app j1.hf (HFL_app j2.hf trivial)
    · intro e he
      simp at he
      rcases he with rfl | rfl
      · exact ⟨j1, b1⟩
      · exact ⟨j2, b2⟩
    rw [foldV_map] at hu
    simp only [List.map_cons, List.map_nil, List.getElem_cons_zero] at hu
    rw [← hw] at hu
    obtain ⟨hs, rfl, hf⟩ := hu
    obtain ⟨_, _, _, _, _, _, _, _, _, _, _, _, rfl, _⟩ := id hf.parts
    simp only [spanC, zeroC, ratC, zeroE, zeroS, List.set_cons_zero, List.set_cons_succ, List.nil_append, List.cons_append, List.append_nil, List.replicate_succ, List.replicate_zero, List.length_cons, List.length_nil, splice, List.take_succ_cons, List.take_zero, List.drop_succ_cons, List.drop_zero, List.take_nil, List.drop_nil, Nat.zero_add, Nat.reduceAdd, Nat.reduceMul, Int.reduceToNat, closeB, List.getElem?_cons_succ, List.getElem?_cons_zero]
    refine go2 ?_
    refine semH_of_semC (outward32 hf bp h4 h5) (fun u hu => ?_)
    obtain ⟨s, er, rfl⟩ := id hu.shape
    refine go2 ?_
    exact span_fz s er ⟨fun h => absurd okp h, fun _ => hu⟩
  simp [compare'] at h6
  refine go2 ?_
  refine semH_of_semC (span_hasZero i1) (fun u hu => ?_)
  obtain rfl := hu
  cases hz : zeroB x
  case false =>
    have hw := pow_none (x := x) (n := m) (fun h => by rw [hz] at h; cases h.2)
    refine go2 ?_
    try simp only [spanC, zeroC, ratC, zeroE, zeroS, List.set_cons_zero, List.set_cons_succ, List.nil_append, List.cons_append, List.append_nil, List.replicate_succ, List.replicate_zero, List.length_cons, List.length_nil, splice, List.take_succ_cons, List.take_zero, List.drop_succ_cons, List.drop_zero, List.take_nil, List.drop_nil, Nat.zero_add, Nat.reduceAdd, Nat.reduceMul, Int.reduceToNat, closeB, List.getElem?_cons_succ, List.getElem?_cons_zero]
    refine semH_of_semC_close [3] (.cons (.c (fz_sl (ds := ([([p1, p2, p3, p4, p5, p6], pw x.1 m), ([u1, u2, u3, u4, u5, u6], pw x.2 m)] : List Cv).flatMap (·.1)) (by rfl) (by rfl) (by simp) (by rfl) ?_)) (.cons (.c (.hf trivial)) .nil)) (span_hull_Q (k := 32) (l := [([p1, p2, p3, p4, p5, p6], pw x.1 m), ([u1, u2, u3, u4, u5, u6], pw x.2 m)]) (by simp) (by simp) ?_ (by decide)) (fun u hu => ?_)
    · exact HFL_app j1.hf (HFL_app j2.hf trivial)
    · intro e he
      simp at he
      rcases he with rfl | rfl
      · exact ⟨j1, b1⟩
      · exact ⟨j2, b2⟩
    rw [foldV_map] at hu
    simp only [List.map_cons, List.map_nil, List.getElem_cons_zero] at hu
    rw [← hw] at hu
    obtain ⟨hs, rfl, hf⟩ := hu
    obtain ⟨_, _, _, _, _, _, _, _, _, _, _, _, rfl, _⟩ := id hf.parts
    simp only [spanC, zeroC, ratC, zeroE, zeroS, List.set_cons_zero, List.set_cons_succ, List.nil_append, List.cons_append, List.append_nil, List.replicate_succ, List.replicate_zero, List.length_cons, List.length_nil, splice, List.take_succ_cons, List.take_zero, List.drop_succ_cons, List.drop_zero, List.take_nil, List.drop_nil, Nat.zero_add, Nat.reduceAdd, Nat.reduceMul, Int.reduceToNat, closeB, List.getElem?_cons_succ, List.getElem?_cons_zero]
    refine go2 ?_
    refine semH_of_semC (outward32 hf bp h4 h5) (fun u hu => ?_)
    obtain ⟨s, er, rfl⟩ := id hu.shape
    refine go2 ?_
    exact span_fz s er ⟨fun h => absurd okp h, fun _ => hu⟩
  refine go2 ?_
  refine semH_of_semC (num_Int (g := 0) (by omega) (by omega)) (fun u hu => ?_)
  obtain ⟨gs, rfl, j3⟩ := hu
  obtain ⟨v1, v2, v3, v4, v5, v6, rfl, _⟩ := id j3.six
  refine go2 ?_
  simp only [spanC, zeroC, ratC, zeroE, zeroS, List.set_cons_zero, List.set_cons_succ, List.nil_append, List.cons_append, List.append_nil, List.replicate_succ, List.replicate_zero, List.length_cons, List.length_nil, splice, List.take_succ_cons, List.take_zero, List.drop_succ_cons, List.drop_zero, List.take_nil, List.drop_nil, Nat.zero_add, Nat.reduceAdd, Nat.reduceMul, Int.reduceToNat, closeB, List.getElem?_cons_succ, List.getElem?_cons_zero]
  refine app_sl (cs := [p1, p2, p3, p4, p5, p6, u1, u2, u3, u4, u5, u6]) (xs := [v1, v2, v3, v4, v5, v6]) (m := 1) (by rfl) (by rfl) (by rfl) (by rfl) (by rfl) (by rfl) (by simp) (by omega) (by omega) ?_
  refine go2 ?_
  simp only [spanC, zeroC, ratC, zeroE, zeroS, List.set_cons_zero, List.set_cons_succ, List.nil_append, List.cons_append, List.append_nil, List.replicate_succ, List.replicate_zero, List.length_cons, List.length_nil, splice, List.take_succ_cons, List.take_zero, List.drop_succ_cons, List.drop_zero, List.take_nil, List.drop_nil, Nat.zero_add, Nat.reduceAdd, Nat.reduceMul, Int.reduceToNat, closeB, List.getElem?_cons_succ, List.getElem?_cons_zero]
  have hw : powS x m = [pw x.1 m, pw x.2 m, (0, 1)].foldl wider (pw x.1 m, pw x.1 m) := by
    unfold powS
    rw [hz, dec_true.2 (show 0 < m by omega)]
    rfl
  refine semH_of_semC_close [5] (.cons (.c (fz_sl (ds := ([([p1, p2, p3, p4, p5, p6], pw x.1 m), ([u1, u2, u3, u4, u5, u6], pw x.2 m), ([v1, v2, v3, v4, v5, v6], ((0, 1) : R2))] : List Cv).flatMap (·.1)) (by rfl) (by rfl) (by simp) (by rfl) ?_)) (.cons (.c (.hf trivial)) .nil)) (span_hull_Q (k := 32) (l := [([p1, p2, p3, p4, p5, p6], pw x.1 m), ([u1, u2, u3, u4, u5, u6], pw x.2 m), ([v1, v2, v3, v4, v5, v6], ((0, 1) : R2))]) (by simp) (by simp) ?_ (by decide)) (fun u hu => ?_)
  · exact HFL_app j1.hf (HFL_app j2.hf (HFL_app j3.hf trivial))
  · intro e he
    simp at he
    rcases he with rfl | rfl | rfl
    · exact ⟨j1, b1⟩
    · exact ⟨j2, b2⟩
    · exact ⟨j3, b0⟩
  rw [foldV_map] at hu
  simp only [List.map_cons, List.map_nil, List.getElem_cons_zero] at hu
  rw [← hw] at hu
  obtain ⟨hs, rfl, hf⟩ := hu
  obtain ⟨_, _, _, _, _, _, _, _, _, _, _, _, rfl, _⟩ := id hf.parts
  simp only [spanC, zeroC, ratC, zeroE, zeroS, List.set_cons_zero, List.set_cons_succ, List.nil_append, List.cons_append, List.append_nil, List.replicate_succ, List.replicate_zero, List.length_cons, List.length_nil, splice, List.take_succ_cons, List.take_zero, List.drop_succ_cons, List.drop_zero, List.take_nil, List.drop_nil, Nat.zero_add, Nat.reduceAdd, Nat.reduceMul, Int.reduceToNat, closeB, List.getElem?_cons_succ, List.getElem?_cons_zero]
  refine go2 ?_
  refine semH_of_semC (outward32 hf bp h4 h5) (fun u hu => ?_)
  obtain ⟨s, er, rfl⟩ := id hu.shape
  refine go2 ?_
  exact span_fz s er ⟨fun h => absurd okp h, fun _ => hu⟩
end Go.Proofs.YtjncgcnofiaiaaaGreat

/-
  isoclineref05.Raised and Power; the law of spans alone: its own function.
-/
set_option linter.unusedVariables false
set_option linter.unusedSimpArgs false
namespace Go.Proofs.YtjncgcnofiaiaaaGreat
open Go.RowKit
set_option maxRecDepth 20000

theorem cm_eq' (a : Int) : compare' Cm.eql a a = true := dec_true.2 rfl
theorem errV_shape (x : SP) : ∃ e : Int, errV x = i64 e := by
  unfold errV
  cases dec (SpanOk x)
  · exact ⟨_, rfl⟩
  · exact ⟨_, rfl⟩
attribute [local irreducible] compare' semH semC qLen qNil qIad qSlc qIdx ldBox ldCells stBox appX awpF awpOpsF awpDF xopF xopDF qval lval seqQ blockQ loopQ bodyF retKF cnd arith IntKind.wrap

theorem ref05_Raised {cs : List C} {x : SP} (m : Nat) (hx : IsS cs x) (bx : BdS 2 x) (g1 : Good x.1) (g2 : Good x.2) (hm : m ≤ 12) : semC Tryz.prog n_ref05_Raised [.agg cs, i64 m] (SRK (fun e => e = powS x m)) := by
  refine semC_of_awpF ok_ref05_Raised rfl (show HFVs [.agg cs, i64 m] from ⟨hx.hf, trivial, trivial⟩) ?_
  obtain ⟨a, b, c, d, a', b', c', d', rfl, q1, q2⟩ := id hx.parts
  have b1 := pw_bd32 g1 bx.lo hm
  have b2 := pw_bd32 g2 bx.hi hm
  have b0 : Bd 32 ((0, 1) : R2) := ⟨by unfold Sz; decide, by unfold Sz; decide, by decide⟩
  refine go3 ?_
  cases h1 : compare' Cm.gtr (m : Int) 0
  case false =>
    simp [compare'] at h1
    have hw := pow_none (x := x) (n := m) (fun h => by have := h.1; omega)
    refine go3 ?_
    simp only [spanC, zeroC, ratC, zeroE, zeroS, List.set_cons_zero, List.set_cons_succ, List.nil_append, List.cons_append, List.append_nil, List.replicate_succ, List.replicate_zero, List.length_cons, List.length_nil, splice, List.take_succ_cons, List.take_zero, List.drop_succ_cons, List.drop_zero, List.take_nil, List.drop_nil, Nat.zero_add, Nat.reduceAdd, Nat.reduceMul, Int.reduceToNat, closeB, List.getElem?_cons_succ, List.getElem?_cons_zero]
    refine call_C (ref01_Q_Pow m q1 bx.lo g1 hm) (fun u hu => ?_)
    obtain ⟨es, rfl, j1⟩ := hu
    refine go3 ?_
    refine semH_of_semC (ref01_Q_Pow m q2 bx.hi g2 hm) (fun u hu => ?_)
    obtain ⟨fs, rfl, j2⟩ := hu
    obtain ⟨p1, p2, p3, p4, _, rfl, _⟩ := id j1.four
    obtain ⟨u1, u2, u3, u4, _, rfl, _⟩ := id j2.four
    refine go3 ?_
    simp only [spanC, zeroC, ratC, zeroE, zeroS, List.set_cons_zero, List.set_cons_succ, List.nil_append, List.cons_append, List.append_nil, List.replicate_succ, List.replicate_zero, List.length_cons, List.length_nil, splice, List.take_succ_cons, List.take_zero, List.drop_succ_cons, List.drop_zero, List.take_nil, List.drop_nil, Nat.zero_add, Nat.reduceAdd, Nat.reduceMul, Int.reduceToNat, closeB, List.getElem?_cons_succ, List.getElem?_cons_zero]
    refine semH_of_semC_close [2] (.cons (.c (fz_sl (ds := ([([p1, .bool p2, p3, .bool p4], pw x.1 m), ([u1, .bool u2, u3, .bool u4], pw x.2 m)] : List Cv).flatMap (·.1)) (by rfl) (by rfl) (by simp) (by rfl) ?_)) .nil) (ref05_least (k := 32) (l := [([p1, .bool p2, p3, .bool p4], pw x.1 m), ([u1, .bool u2, u3, .bool u4], pw x.2 m)]) (by simp) (by simp) ?_ (by decide)) (fun u hu => ?_)
    · exact HFL_app j1.hf (HFL_app j2.hf trivial)
    · intro e he
      simp at he
      rcases he with rfl | rfl
      · exact ⟨j1, b1⟩
      · exact ⟨j2, b2⟩
    rw [foldV_map] at hu
    simp only [List.map_cons, List.map_nil, List.getElem_cons_zero] at hu
    rw [← hw] at hu
    obtain ⟨hs, rfl, hf⟩ := hu
    obtain ⟨_, _, _, _, _, _, _, _, rfl, _⟩ := id hf.parts
    simp only [spanC, zeroC, ratC, zeroE, zeroS, List.set_cons_zero, List.set_cons_succ, List.nil_append, List.cons_append, List.append_nil, List.replicate_succ, List.replicate_zero, List.length_cons, List.length_nil, splice, List.take_succ_cons, List.take_zero, List.drop_succ_cons, List.drop_zero, List.take_nil, List.drop_nil, Nat.zero_add, Nat.reduceAdd, Nat.reduceMul, Int.reduceToNat, closeB, List.getElem?_cons_succ, List.getElem?_cons_zero]
    refine go3 ?_
    exact SRK.fz hf rfl
  simp [compare'] at h1
  refine go3 ?_
  rw [rem_two]
  cases h2 : compare' Cm.eql ((m % 2 : Nat) : Int) 0
  case false =>
    have ho : m % 2 = 1 := by
      have : ((m % 2 : Nat) : Int) ≠ 0 := by simpa [compare'] using h2
      omega
    have hw : powS x m = [pw x.1 m, pw x.2 m].foldl wider (pw x.1 m, pw x.1 m) := by
      cases hz : zeroB x
      · exact pow_none (fun h => by rw [hz] at h; cases h.2)
      · exact pow_odd g1 g2 hz ho
    refine go3 ?_
    simp only [spanC, zeroC, ratC, zeroE, zeroS, List.set_cons_zero, List.set_cons_succ, List.nil_append, List.cons_append, List.append_nil, List.replicate_succ, List.replicate_zero, List.length_cons, List.length_nil, splice, List.take_succ_cons, List.take_zero, List.drop_succ_cons, List.drop_zero, List.take_nil, List.drop_nil, Nat.zero_add, Nat.reduceAdd, Nat.reduceMul, Int.reduceToNat, closeB, List.getElem?_cons_succ, List.getElem?_cons_zero]
    refine call_C (ref01_Q_Pow m q1 bx.lo g1 hm) (fun u hu => ?_)
    obtain ⟨es, rfl, j1⟩ := hu
    refine go3 ?_
    refine semH_of_semC (ref01_Q_Pow m q2 bx.hi g2 hm) (fun u hu => ?_)
    obtain ⟨fs, rfl, j2⟩ := hu
    obtain ⟨p1, p2, p3, p4, _, rfl, _⟩ := id j1.four
    obtain ⟨u1, u2, u3, u4, _, rfl, _⟩ := id j2.four
    refine go3 ?_
    simp only [spanC, zeroC, ratC, zeroE, zeroS, List.set_cons_zero, List.set_cons_succ, List.nil_append, List.cons_append, List.append_nil, List.replicate_succ, List.replicate_zero, List.length_cons, List.length_nil, splice, List.take_succ_cons, List.take_zero, List.drop_succ_cons, List.drop_zero, List.take_nil, List.drop_nil, Nat.zero_add, Nat.reduceAdd, Nat.reduceMul, Int.reduceToNat, closeB, List.getElem?_cons_succ, List.getElem?_cons_zero]
    refine semH_of_semC_close [2] (.cons (.c (fz_sl (ds := ([([p1, .bool p2, p3, .bool p4], pw x.1 m), ([u1, .bool u2, u3, .bool u4], pw x.2 m)] : List Cv).flatMap (·.1)) (by rfl) (by rfl) (by simp) (by rfl) ?_)) .nil) (ref05_least (k := 32) (l := [([p1, .bool p2, p3, .bool p4], pw x.1 m), ([u1, .bool u2, u3, .bool u4], pw x.2 m)]) (by simp) (by simp) ?_ (by decide)) (fun u hu => ?_)
    · exact HFL_app j1.hf (HFL_app j2.hf trivial)
    · intro e he
      simp at he
      rcases he with rfl | rfl
      · exact ⟨j1, b1⟩
      · exact ⟨j2, b2⟩
    rw [foldV_map] at hu
    simp only [List.map_cons, List.map_nil, List.getElem_cons_zero] at hu
    rw [← hw] at hu
    obtain ⟨hs, rfl, hf⟩ := hu
    obtain ⟨_, _, _, _, _, _, _, _, rfl, _⟩ := id hf.parts
    simp only [spanC, zeroC, ratC, zeroE, zeroS, List.set_cons_zero, List.set_cons_succ, List.nil_append, List.cons_append, List.append_nil, List.replicate_succ, List.replicate_zero, List.length_cons, List.length_nil, splice, List.take_succ_cons, List.take_zero, List.drop_succ_cons, List.drop_zero, List.take_nil, List.drop_nil, Nat.zero_add, Nat.reduceAdd, Nat.reduceMul, Int.reduceToNat, closeB, List.getElem?_cons_succ, List.getElem?_cons_zero]
    refine go3 ?_
    exact SRK.fz hf rfl
  refine go3 ?_
  refine semH_of_semC (ref05_Holds (p := (0, 1)) (k := 2) hx rq_zero bx ⟨by unfold Sz; decide, by unfold Sz; decide, by decide⟩ (by decide)) (fun u hu => ?_)
  obtain rfl := hu
  rw [holds_zero]
  cases hz : zeroB x
  case false =>
    have hw := pow_none (x := x) (n := m) (fun h => by rw [hz] at h; cases h.2)
    refine go3 ?_
    simp only [spanC, zeroC, ratC, zeroE, zeroS, List.set_cons_zero, List.set_cons_succ, List.nil_append, List.cons_append, List.append_nil, List.replicate_succ, List.replicate_zero, List.length_cons, List.length_nil, splice, List.take_succ_cons, List.take_zero, List.drop_succ_cons, List.drop_zero, List.take_nil, List.drop_nil, Nat.zero_add, Nat.reduceAdd, Nat.reduceMul, Int.reduceToNat, closeB, List.getElem?_cons_succ, List.getElem?_cons_zero]
    refine call_C (ref01_Q_Pow m q1 bx.lo g1 hm) (fun u hu => ?_)
    obtain ⟨es, rfl, j1⟩ := hu
    refine go3 ?_
    refine semH_of_semC (ref01_Q_Pow m q2 bx.hi g2 hm) (fun u hu => ?_)
    obtain ⟨fs, rfl, j2⟩ := hu
    obtain ⟨p1, p2, p3, p4, _, rfl, _⟩ := id j1.four
    obtain ⟨u1, u2, u3, u4, _, rfl, _⟩ := id j2.four
    refine go3 ?_
    simp only [spanC, zeroC, ratC, zeroE, zeroS, List.set_cons_zero, List.set_cons_succ, List.nil_append, List.cons_append, List.append_nil, List.replicate_succ, List.replicate_zero, List.length_cons, List.length_nil, splice, List.take_succ_cons, List.take_zero, List.drop_succ_cons, List.drop_zero, List.take_nil, List.drop_nil, Nat.zero_add, Nat.reduceAdd, Nat.reduceMul, Int.reduceToNat, closeB, List.getElem?_cons_succ, List.getElem?_cons_zero]
    refine semH_of_semC_close [2] (.cons (.c (fz_sl (ds := ([([p1, .bool p2, p3, .bool p4], pw x.1 m), ([u1, .bool u2, u3, .bool u4], pw x.2 m)] : List Cv).flatMap (·.1)) (by rfl) (by rfl) (by simp) (by rfl) ?_)) .nil) (ref05_least (k := 32) (l := [([p1, .bool p2, p3, .bool p4], pw x.1 m), ([u1, .bool u2, u3, .bool u4], pw x.2 m)]) (by simp) (by simp) ?_ (by decide)) (fun u hu => ?_)
    · exact HFL_app j1.hf (HFL_app j2.hf trivial)
    · intro e he
      simp at he
      rcases he with rfl | rfl
      · exact ⟨j1, b1⟩
      · exact ⟨j2, b2⟩
    rw [foldV_map] at hu
    simp only [List.map_cons, List.map_nil, List.getElem_cons_zero] at hu
    rw [← hw] at hu
    obtain ⟨hs, rfl, hf⟩ := hu
    obtain ⟨_, _, _, _, _, _, _, _, rfl, _⟩ := id hf.parts
    simp only [spanC, zeroC, ratC, zeroE, zeroS, List.set_cons_zero, List.set_cons_succ, List.nil_append, List.cons_append, List.append_nil, List.replicate_succ, List.replicate_zero, List.length_cons, List.length_nil, splice, List.take_succ_cons, List.take_zero, List.drop_succ_cons, List.drop_zero, List.take_nil, List.drop_nil, Nat.zero_add, Nat.reduceAdd, Nat.reduceMul, Int.reduceToNat, closeB, List.getElem?_cons_succ, List.getElem?_cons_zero]
    refine go3 ?_
    exact SRK.fz hf rfl
  have hw := pow_even g1 g2 hz (show 0 < m by omega)
  refine go3 ?_
  simp only [spanC, zeroC, ratC, zeroE, zeroS, List.set_cons_zero, List.set_cons_succ, List.nil_append, List.cons_append, List.append_nil, List.replicate_succ, List.replicate_zero, List.length_cons, List.length_nil, splice, List.take_succ_cons, List.take_zero, List.drop_succ_cons, List.drop_zero, List.take_nil, List.drop_nil, Nat.zero_add, Nat.reduceAdd, Nat.reduceMul, Int.reduceToNat, closeB, List.getElem?_cons_succ, List.getElem?_cons_zero]
  refine call_C (ref01_Q_Pow m q1 bx.lo g1 hm) (fun u hu => ?_)
  obtain ⟨es, rfl, j1⟩ := hu
  refine go3 ?_
  refine call_C (ref01_Q_Pow m q2 bx.hi g2 hm) (fun u hu => ?_)
  obtain ⟨fs, rfl, j2⟩ := hu
  obtain ⟨p1, p2, p3, p4, _, rfl, _⟩ := id j1.four
  obtain ⟨u1, u2, u3, u4, _, rfl, _⟩ := id j2.four
  refine go3 ?_
  simp only [spanC, zeroC, ratC, zeroE, zeroS, List.set_cons_zero, List.set_cons_succ, List.nil_append, List.cons_append, List.append_nil, List.replicate_succ, List.replicate_zero, List.length_cons, List.length_nil, splice, List.take_succ_cons, List.take_zero, List.drop_succ_cons, List.drop_zero, List.take_nil, List.drop_nil, Nat.zero_add, Nat.reduceAdd, Nat.reduceMul, Int.reduceToNat, closeB, List.getElem?_cons_succ, List.getElem?_cons_zero]
  refine semH_of_semC_close [2] (.cons (.c (fz_sl (ds := ([([.nilSl, .bool false, .nilSl, .bool false], ((0, 1) : R2)), ([p1, .bool p2, p3, .bool p4], pw x.1 m), ([u1, .bool u2, u3, .bool u4], pw x.2 m)] : List Cv).flatMap (·.1)) (by rfl) (by rfl) (by simp) (by rfl) ?_)) .nil) (ref05_least (k := 32) (l := [([.nilSl, .bool false, .nilSl, .bool false], ((0, 1) : R2)), ([p1, .bool p2, p3, .bool p4], pw x.1 m), ([u1, .bool u2, u3, .bool u4], pw x.2 m)]) (by simp) (by simp) ?_ (by decide)) (fun u hu => ?_)
  · exact HFL_app rq_zero.hf (HFL_app j1.hf (HFL_app j2.hf trivial))
  · intro e he
    simp at he
    rcases he with rfl | rfl | rfl
    · exact ⟨rq_zero, b0⟩
    · exact ⟨j1, b1⟩
    · exact ⟨j2, b2⟩
  rw [foldV_map] at hu
  simp only [List.map_cons, List.map_nil, List.getElem_cons_zero] at hu
  rw [← hw] at hu
  obtain ⟨hs, rfl, hf⟩ := hu
  obtain ⟨_, _, _, _, _, _, _, _, rfl, _⟩ := id hf.parts
  simp only [spanC, zeroC, ratC, zeroE, zeroS, List.set_cons_zero, List.set_cons_succ, List.nil_append, List.cons_append, List.append_nil, List.replicate_succ, List.replicate_zero, List.length_cons, List.length_nil, splice, List.take_succ_cons, List.take_zero, List.drop_succ_cons, List.drop_zero, List.take_nil, List.drop_nil, Nat.zero_add, Nat.reduceAdd, Nat.reduceMul, Int.reduceToNat, closeB, List.getElem?_cons_succ, List.getElem?_cons_zero]
  refine go3 ?_
  exact SRK.fz hf rfl
theorem ref05_Power (x : SP) (n g : Int) : semC Tryz.prog n_ref05_Power [.agg (spanC x), i64 n, i64 g] (AnsPow x n g) := by
  refine semC_of_awpF ok_ref05_Power rfl (show HFVs [.agg (spanC x), i64 n, i64 g] from ⟨HFL_span x, trivial, trivial, trivial⟩) ?_
  have bad : ∀ {H : Hp}, ¬ OkPow x n g → ∃ e, FzV H (.tup [.agg (spanC ((0, 0), (0, 0))), i64 1]) e ∧ AnsPow x n g e := fun h => span_fz ((0, 0), (0, 0)) 1 ⟨fun _ => rfl, fun h' => absurd h' h⟩
  refine go2 ?_
  refine semH_of_semC (ref05_Is x) (fun u hu => ?_)
  obtain ⟨z1, rfl, h1⟩ := hu
  cases z1
  case false =>
    refine go2 ?_
    exact bad (fun h => absurd (h1.2 h.1) (by decide))
  have ok := h1.1 rfl
  refine go2 ?_
  cases h2 : compare' Cm.lss n 0
  case true =>
    simp [compare'] at h2
    refine go2 ?_
    exact bad (fun h => by have := h.2.1; omega)
  simp [compare'] at h2
  refine go2 ?_
  cases h3 : compare' Cm.gtr n 12
  case true =>
    simp [compare'] at h3
    refine go2 ?_
    exact bad (fun h => by have := h.2.2.1; omega)
  simp [compare'] at h3
  refine go2 ?_
  refine semH_of_semC (ref01_IsGrid g) (fun u hu => ?_)
  obtain ⟨z3, rfl, h4⟩ := hu
  cases z3
  case false =>
    refine go2 ?_
    exact bad (fun h => absurd (h4.2 h.2.2.2) (by decide))
  obtain ⟨h4, h5⟩ := h4.1 rfl
  clear bad
  have okp : OkPow x n g := ⟨ok, h2, h3, h4, h5⟩
  obtain ⟨m, rfl⟩ := Int.eq_ofNat_of_zero_le h2
  have g1 := ok.1.good
  have g2 := ok.2.1.good
  have bx := ok.bd
  have hm : m ≤ 12 := by omega
  have bp := pow_bd g1 g2 bx hm
  refine go2 ?_
  refine semH_of_semC (ref05_Of ok.1 ok.2.1) (fun u hu => ?_)
  obtain ⟨cs, rfl, i1⟩ := hu
  refine go2 ?_
  refine semH_of_semC (ref05_Raised m i1 bx g1 g2 hm) (fun u hu => ?_)
  obtain ⟨ds, _, rfl, i2, rfl⟩ := hu
  refine go2 ?_
  refine semH_of_semC (ref05_Wide i2 bp (by decide) (by decide) h4 h5) (fun u hu => ?_)
  obtain ⟨fs, w, rfl, i4, w1, w2⟩ := hu
  refine go2 ?_
  refine semH_of_semC (ref05_Told i4 w1.pos w2.pos) (fun u hu => ?_)
  obtain rfl := hu
  have ans : OutwK (powS x m) g (toldV w) := ⟨w.1, w.2, w1, w2, rfl⟩
  obtain ⟨s, er, he⟩ := id ans.shape
  rw [he] at ans
  rw [he]
  refine go2 ?_
  exact span_fz s er ⟨fun h => absurd okp h, fun _ => ans⟩

theorem law05_SpanAlone (x : SP) (n g : Int) : semC Tryz.prog n_law05_SpanAlone [.agg (spanC x), i64 n, i64 g] (EqK (.c (.bool true))) := by
  refine semC_of_awpF ok_law05_SpanAlone rfl (show HFVs [.agg (spanC x), i64 n, i64 g] from ⟨HFL_span x, trivial, trivial, trivial⟩) ?_
  refine go2 ?_
  refine semH_of_semC (span_Out x g) (fun u hu => ?_)
  obtain ⟨s1, e1, rfl⟩ := id hu.shape
  refine go2 ?_
  refine semH_of_semC (ref05_Out x g) (fun u hu2 => ?_)
  obtain rfl := AnsOut.det hu2 hu
  obtain ⟨er, her⟩ := errV_shape x
  refine go2 ?_
  simp only [spanC, zeroC, ratC, zeroE, zeroS, List.set_cons_zero, List.set_cons_succ, List.nil_append, List.cons_append, List.append_nil, List.replicate_succ, List.replicate_zero, List.length_cons, List.length_nil, splice, List.take_succ_cons, List.take_zero, List.drop_succ_cons, List.drop_zero, List.take_nil, List.drop_nil, Nat.zero_add, Nat.reduceAdd, Nat.reduceMul, Int.reduceToNat, closeB, List.getElem?_cons_succ, List.getElem?_cons_zero]
  refine call_C (span_Validate x) (fun u hu => ?_)
  obtain rfl := hu
  rw [her]
  refine go2 ?_
  refine call_C (ref05_Validate x) (fun u hu => ?_)
  obtain rfl := hu
  rw [her]
  refine go2 ?_
  simp only [spanC, zeroC, ratC, zeroE, zeroS, List.set_cons_zero, List.set_cons_succ, List.nil_append, List.cons_append, List.append_nil, List.replicate_succ, List.replicate_zero, List.length_cons, List.length_nil, splice, List.take_succ_cons, List.take_zero, List.drop_succ_cons, List.drop_zero, List.take_nil, List.drop_nil, Nat.zero_add, Nat.reduceAdd, Nat.reduceMul, Int.reduceToNat, closeB, List.getElem?_cons_succ, List.getElem?_cons_zero]
  try simp only [cm_eq', cm_neq', beq_self_eq_true, Bool.and_self, cond_true, cond_false, Bool.not_true, Bool.not_false]
  refine go2 ?_
  try simp only [cm_eq', cm_neq', beq_self_eq_true, Bool.and_self, cond_true, cond_false, Bool.not_true, Bool.not_false]
  refine go2 ?_
  try simp only [cm_eq', cm_neq', beq_self_eq_true, Bool.and_self, cond_true, cond_false, Bool.not_true, Bool.not_false]
  refine go2 ?_
  try simp only [cm_eq', cm_neq', beq_self_eq_true, Bool.and_self, cond_true, cond_false, Bool.not_true, Bool.not_false]
  refine go2 ?_
  refine semH_of_semC (span_Power x n g) (fun u hu => ?_)
  obtain ⟨s2, e2, rfl⟩ := id hu.shape
  refine go2 ?_
  refine semH_of_semC (ref05_Power x n g) (fun u hu2 => ?_)
  obtain rfl := AnsPow.det hu2 hu
  refine go2 ?_
  simp only [spanC, zeroC, ratC, zeroE, zeroS, List.set_cons_zero, List.set_cons_succ, List.nil_append, List.cons_append, List.append_nil, List.replicate_succ, List.replicate_zero, List.length_cons, List.length_nil, splice, List.take_succ_cons, List.take_zero, List.drop_succ_cons, List.drop_zero, List.take_nil, List.drop_nil, Nat.zero_add, Nat.reduceAdd, Nat.reduceMul, Int.reduceToNat, closeB, List.getElem?_cons_succ, List.getElem?_cons_zero]
  try simp only [cm_eq', cm_neq', beq_self_eq_true, Bool.and_self, cond_true, cond_false, Bool.not_true, Bool.not_false]
  refine go2 ?_
  try simp only [cm_eq', cm_neq', beq_self_eq_true, Bool.and_self, cond_true, cond_false, Bool.not_true, Bool.not_false]
  refine go2 ?_
  try simp only [cm_eq', cm_neq', beq_self_eq_true, Bool.and_self, cond_true, cond_false, Bool.not_true, Bool.not_false]
  refine go2 ?_
  try simp only [cm_eq', cm_neq', beq_self_eq_true, Bool.and_self, cond_true, cond_false, Bool.not_true, Bool.not_false]
  refine go2 ?_
  refine semH_of_semC (span_Halves2 x) (fun u hu => ?_)
  obtain ⟨s3, t3, e3, rfl⟩ := id hu.shape
  refine go2 ?_
  refine semH_of_semC (ref05_Halves x) (fun u hu2 => ?_)
  obtain rfl := AnsHalv.det hu2 hu
  refine go2 ?_
  simp only [spanC, zeroC, ratC, zeroE, zeroS, List.set_cons_zero, List.set_cons_succ, List.nil_append, List.cons_append, List.append_nil, List.replicate_succ, List.replicate_zero, List.length_cons, List.length_nil, splice, List.take_succ_cons, List.take_zero, List.drop_succ_cons, List.drop_zero, List.take_nil, List.drop_nil, Nat.zero_add, Nat.reduceAdd, Nat.reduceMul, Int.reduceToNat, closeB, List.getElem?_cons_succ, List.getElem?_cons_zero]
  try simp only [cm_eq', cm_neq', beq_self_eq_true, Bool.and_self, cond_true, cond_false, Bool.not_true, Bool.not_false]
  refine go2 ?_
  try simp only [cm_eq', cm_neq', beq_self_eq_true, Bool.and_self, cond_true, cond_false, Bool.not_true, Bool.not_false]
  refine go2 ?_
  try simp only [cm_eq', cm_neq', beq_self_eq_true, Bool.and_self, cond_true, cond_false, Bool.not_true, Bool.not_false]
  refine go2 ?_
  try simp only [cm_eq', cm_neq', beq_self_eq_true, Bool.and_self, cond_true, cond_false, Bool.not_true, Bool.not_false]
  refine go2 ?_
  refine semH_of_semC law05_known (fun u hu => ?_)
  obtain rfl := hu
  refine go2 ?_
  exact ⟨_, .c (.hf trivial), rfl⟩
end Go.Proofs.YtjncgcnofiaiaaaGreat

/-
  isoclinelaw05.SpanAlone returns true for every input, and the arguments read afterwards as they read before. Conditions: none.
-/
set_option linter.unusedVariables false
set_option linter.unusedSimpArgs false
namespace Go.Proofs.YtjncgcnofiaiaaaGreat
open Go.ChangeShapes Go.WideShapes Go.ChangeAt Go.RowKit Go.Joins

theorem int_one : Tryz.prog.underlying T_int = some (.int .i64) := by kernel_rfl
theorem rv_int (z : Int) {c : Cx} : RV c (i64 z) (.int .i64 z) := .c (.int _ _)

set_option maxRecDepth 100000 in
theorem spanAlone_lifted (os : Os) (started : os.Started) (H : Type) (enc : TypeId × Value → H) :
    ReturnsInHanded {} Tryz.checked os 4 .any (Rows.spanAloneSpec.pre6 enc Tryz.prog Tryz.f4 Rows.spanAloneRow.domain false) (Rows.spanAloneSpec.post enc Tryz.prog Tryz.f4 false true false false) := by
  refine returnsInHanded_of_change (C := Tryz.checked) own_none started (by kernel_rfl) Tryz.func4
    (ChangeSpec.witness6 (enc := enc) (C := Tryz.checked) false ⟨#[], #[.agg #[.int .i64 0, .int .i64 0, .int .i64 0, .int .i64 0], .int .i64 0, .int .i64 0], []⟩ 8 (by kernel_rfl) (by kernel_rfl) (by kernel_rfl) (by kernel_rfl)) ?_
  intro W base args ds gs before hval0 hW hcnd _
  have hval : ∀ (j : Nat) t v, Tryz.f4.params[j]? = some t → args[j]? = some v → Value.okWide Tryz.prog W .any base t v := hval0
  have hW' := hW
  obtain ⟨p, q, hA0, hV, rfl, hfz, hnd⟩ := hW
  have hA : DataW.TrodAll enc Tryz.prog W 0 (fun _ => true) true Tryz.f4.params.toList args.toList ds p := hA0
  rw [Tryz.params4] at hA hval
  obtain ⟨v0, v1, v2, d0, d1, d2, p0, p1, p2, rfl, rfl, rfl, h0, h1, h2⟩ := trodAll_three hA
  obtain ⟨rfl, rfl⟩ := trodVars_none hV
  have hlt : ∀ x ∈ p0 ++ p1 ++ p2, x.block < W.heap.size := fun x hx => hW'.lt x (by simpa using hx)
  obtain ⟨x, rfl⟩ := open_span rat_two span_two (hval 0 _ v0 rfl rfl) h0
  obtain ⟨n, rfl⟩ := okWide_int int_one (hval 1 _ v1 rfl rfl)
  obtain ⟨g, rfl⟩ := okWide_int int_one (hval 2 _ v2 rfl rfl)
  clear hA0 hval0
  refine ((law05_SpanAlone x n g).2.2 (fun _ => False) W [_, _, _] (fun _ h => h.elim) (.cons (rv_span x) (.cons (rv_int n) (.cons (rv_int g) .nil)))).mono ?_
  rintro e W' ⟨v, u, rfl, hu, hr, hq⟩
  obtain rfl := hu
  obtain rfl := rv_true hr
  have hb := hq.below
  refine ⟨_, rfl, _, _, _, [], p0 ++ (p1 ++ p2), [], hW', ?_, ?_, rfl, hb.frame _, fun h => by cases h⟩
  · exact trodAll_mk1 (shut_bool (by kernel_rfl) true)
  · exact trodAll_mk3 (Below.trod laid_out (by kernel_rfl) (of_decide_eq_true (by kernel_rfl)) h0 hb (fun x hx => hlt x (by simp [hx]))) (Below.trod laid_out (by kernel_rfl) (of_decide_eq_true (by kernel_rfl)) h1 hb (fun x hx => hlt x (by simp [hx]))) (Below.trod laid_out (by kernel_rfl) (of_decide_eq_true (by kernel_rfl)) h2 hb (fun x hx => hlt x (by simp [hx])))

theorem spanAlone_holds : Rows.SpanAloneSaid :=
  OpenClaim.holds_of_wide 4 Tryz.f4 rfl rfl rfl rfl rfl rfl rfl ⟨rfl, rfl, rfl, rfl, rfl⟩ rfl rfl rfl rfl rfl (by kernel_rfl) Tryz.func4 (by kernel_rfl)
    (of_decide_eq_true (by kernel_rfl)) (by unfold Func.isWrapper; first | (rw [if_pos (by decide +kernel)]; kernel_rfl) | (rw [if_neg (by decide +kernel)]; exact ⟨rfl, rfl⟩))
    (fun os started H enc _ => spanAlone_lifted os started H enc)
#print axioms spanAlone_holds
end Go.Proofs.YtjncgcnofiaiaaaGreat
