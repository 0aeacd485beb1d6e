/-
  The law of halves: its own function.
-/
import Derived.Test.YtjncgcnofiaiaaaMa8
import Derived.Test.YtjncgcnofiaiaaaMa7
/-
  num.quoWords, whole; num.Z.Quo of any numbers.
-/
set_option linter.unusedVariables false
set_option linter.unusedSimpArgs false
namespace Go.Proofs.Ytjncgcnofiaiaaa
open Go.RowKit
set_option maxRecDepth 20000

theorem amt_tdiv (m1 m2 : Bool) (x y : Nat) : (amt m1 x).tdiv (amt m2 y) = amt (!(m1 == m2)) (x / y) := by
  have e : (x : Int).tdiv (y : Int) = ((x / y : Nat) : Int) := (Int.ofNat_tdiv x y).symm
  cases m1 <;> cases m2
  · exact e
  · simp only [amt, cond_true, cond_false, Int.tdiv_neg, e]
    rfl
  · simp only [amt, cond_true, cond_false, Int.neg_tdiv, e]
    rfl
  · simp only [amt, cond_true, cond_false, Int.tdiv_neg, Int.neg_tdiv, Int.neg_neg, e]
    rfl
theorem amt_tmod (m1 m2 : Bool) (x y : Nat) : (amt m1 x).tmod (amt m2 y) = amt m1 (x % y) := by
  have e : (x : Int).tmod (y : Int) = ((x % y : Nat) : Int) := (Int.ofNat_tmod x y).symm
  cases m1 <;> cases m2
  · exact e
  · simp only [amt, cond_true, cond_false, Int.tmod_neg, e]
  · simp only [amt, cond_true, cond_false, Int.neg_tmod, e]
  · simp only [amt, cond_true, cond_false, Int.tmod_neg, Int.neg_tmod, e]
theorem Sz.cl {n : Nat} (hn : n ≤ 268435456) : SCl (Sz n) n := ⟨fun a b h1 h2 => by unfold Sz at *; omega, fun a h => h, hn⟩
attribute [local irreducible] compare' semH semC qLen qNil qIad qSlc qIdx ldBox ldCells stBox appX awpF awpOpsF awpDF xopF xopDF qval lval seqQ blockQ loopQ bodyF retKF cnd arith IntKind.wrap

theorem num_quoWords {c d : C} {a b : List Nat} (hc : Wd c a) (hd : Wd d b) (na : Norm a) (nb : Norm b) (hb0 : b ≠ []) (hl : a.length < 1073741824) : semC Try.prog n_num_quoWords [.c c, .c d] (QWK (val a) (val b) a.length) := by
  rcases Nat.lt_or_ge (val a) (val b) with hv | hv
  · exact num_quoWords_less hc hd na nb hl hv
  · rcases Nat.lt_or_ge b.length 2 with h | h
    · have hl1 : 0 < b.length := List.length_pos_iff.2 hb0
      match b, h, hl1 with
      | [x], _, _ => exact num_quoWords_short hc hd na nb hl (by omega)
    · exact num_quoWords_long hc hd na nb h hl (by omega)

theorem quoOk {n : Nat} (hn : n ≤ 268435456) : QuoOk (Sz n) := by
  intro cs ds a b hx hy sa sb h0
  refine semC_of_awpF ok_num_Z_Quo rfl (show HFVs [.agg cs, .agg ds] from ⟨hx.hf, hy.hf, trivial⟩) ?_
  unfold Sz at sa sb
  have hx' := hx
  have hy' := hy
  rcases hx.look with ⟨rfl, x1, x2⟩ | ⟨lx, nx, rfl, xn, xv, xe⟩
  · rcases hy.look with ⟨rfl, y1, y2⟩ | ⟨ly, ny, rfl, yn, yv, ye⟩
    · have q1 := tdiv_le a b
      have q2 := tmod_le a b
      refine go2 ?_
      cases hq : compare' Cm.neq a (-9223372036854775808)
      case false =>
        refine go2 ?_
        refine semH_of_semC (num_Z_words hx') (fun u hu => ?_)
        obtain ⟨c1, l1, n1, rfl, w1, o1, e1⟩ := hu
        refine go2 ?_
        refine semH_of_semC (num_Z_words hy') (fun u hu => ?_)
        obtain ⟨c2, l2, n2, rfl, w2, o2, e2⟩ := hu
        have hl1 : l1.length ≤ n := norm_len o1 (by rw [e1] at sa; rwa [amt_abs] at sa)
        have hl2 : l2 ≠ [] := fun e => by
          rw [e] at e2
          rw [e2] at h0
          exact h0 (by cases n2 <;> rfl)
        refine go2 ?_
        refine semH_of_semC (num_quoWords w1 w2 o1 o2 hl2 (by omega)) (fun u hu => ?_)
        obtain ⟨c3, l3, c4, l4, rfl, w3, o3, v3, len3, w4, o4, v4, len4⟩ := hu
        refine go2 ?_
        refine semH_of_semC (num_made _ w3 o3 (by omega)) (fun u hu => ?_)
        obtain ⟨es, rfl, h1⟩ := hu
        refine go2 ?_
        refine semH_of_semC (num_made _ w4 o4 (by omega)) (fun u hu => ?_)
        obtain ⟨fs, rfl, h2⟩ := hu
        obtain ⟨g1, g2, g3, rfl⟩ := h1.three
        obtain ⟨k1, k2, k3, rfl⟩ := h2.three
        refine go2 ?_
        refine QuoK.fz ?_ ?_
        · rw [e1, e2, amt_tdiv, ← v3]
          exact h1
        · rw [e1, e2, amt_tmod, ← v4]
          exact h2
      case true =>
        simp [compare'] at hq
        refine go2 ?_
        refine q_ar (by rfl) (by rfl) (by simp [needs, h0]) ?_
        rw [ar_quo, wrap_i64 (by omega) (by omega)]
        refine go2 ?_
        refine q_ar (by rfl) (by rfl) (by simp [needs, h0]) ?_
        rw [ar_rem]
        refine go2 ?_
        exact QuoK.fz (.small _ (by omega) (by omega)) (.small _ (by omega) (by omega))
    · refine go2 ?_
      refine semH_of_semC (num_Z_words hx') (fun u hu => ?_)
      obtain ⟨c1, l1, n1, rfl, w1, o1, e1⟩ := hu
      refine go2 ?_
      refine semH_of_semC (num_Z_words hy') (fun u hu => ?_)
      obtain ⟨c2, l2, n2, rfl, w2, o2, e2⟩ := hu
      have hl1 : l1.length ≤ n := norm_len o1 (by rw [e1] at sa; rwa [amt_abs] at sa)
      have hl2 : l2 ≠ [] := fun e => by
        rw [e] at e2
        rw [e2] at h0
        exact h0 (by cases n2 <;> rfl)
      refine go2 ?_
      refine semH_of_semC (num_quoWords w1 w2 o1 o2 hl2 (by omega)) (fun u hu => ?_)
      obtain ⟨c3, l3, c4, l4, rfl, w3, o3, v3, len3, w4, o4, v4, len4⟩ := hu
      refine go2 ?_
      refine semH_of_semC (num_made _ w3 o3 (by omega)) (fun u hu => ?_)
      obtain ⟨es, rfl, h1⟩ := hu
      refine go2 ?_
      refine semH_of_semC (num_made _ w4 o4 (by omega)) (fun u hu => ?_)
      obtain ⟨fs, rfl, h2⟩ := hu
      obtain ⟨g1, g2, g3, rfl⟩ := h1.three
      obtain ⟨k1, k2, k3, rfl⟩ := h2.three
      refine go2 ?_
      refine QuoK.fz ?_ ?_
      · rw [e1, e2, amt_tdiv, ← v3]
        exact h1
      · rw [e1, e2, amt_tmod, ← v4]
        exact h2
  · refine go2 ?_
    obtain ⟨b1, b2, b3, rfl⟩ := hy'.three
    refine go2 ?_
    refine semH_of_semC (num_Z_words hx') (fun u hu => ?_)
    obtain ⟨c1, l1, n1, rfl, w1, o1, e1⟩ := hu
    refine go2 ?_
    refine semH_of_semC (num_Z_words hy') (fun u hu => ?_)
    obtain ⟨c2, l2, n2, rfl, w2, o2, e2⟩ := hu
    have hl1 : l1.length ≤ n := norm_len o1 (by rw [e1] at sa; rwa [amt_abs] at sa)
    have hl2 : l2 ≠ [] := fun e => by
      rw [e] at e2
      rw [e2] at h0
      exact h0 (by cases n2 <;> rfl)
    refine go2 ?_
    refine semH_of_semC (num_quoWords w1 w2 o1 o2 hl2 (by omega)) (fun u hu => ?_)
    obtain ⟨c3, l3, c4, l4, rfl, w3, o3, v3, len3, w4, o4, v4, len4⟩ := hu
    refine go2 ?_
    refine semH_of_semC (num_made _ w3 o3 (by omega)) (fun u hu => ?_)
    obtain ⟨es, rfl, h1⟩ := hu
    refine go2 ?_
    refine semH_of_semC (num_made _ w4 o4 (by omega)) (fun u hu => ?_)
    obtain ⟨fs, rfl, h2⟩ := hu
    obtain ⟨g1, g2, g3, rfl⟩ := h1.three
    obtain ⟨k1, k2, k3, rfl⟩ := h2.three
    refine go2 ?_
    refine QuoK.fz ?_ ?_
    · rw [e1, e2, amt_tdiv, ← v3]
      exact h1
    · rw [e1, e2, amt_tmod, ← v4]
      exact h2
end Go.Proofs.Ytjncgcnofiaiaaa

/-
  num.Q.Add, Div; span.middle, Halves; rat.Add.
-/
set_option linter.unusedVariables false
set_option linter.unusedSimpArgs false
namespace Go.Proofs.Ytjncgcnofiaiaaa
open Go.RowKit
set_option maxRecDepth 20000

theorem Bd.up {k : Nat} {p : R2} (h : Bd k p) : Bd (k + 1) p := ⟨h.n.up (by omega), h.d.up (by omega), h.pos⟩
theorem Sz.add {n : Nat} {a b : Int} (h1 : Sz n a) (h2 : Sz n b) : Sz (n + 1) (a + b) := by
  unfold Sz at *
  rw [Nat.pow_succ]
  have := Int.natAbs_add_le a b
  omega
theorem uniq_R {p q : R2} (hp : IsRat p.1 p.2) (hq : IsRat q.1 q.2) (h1 : ¬ lessR p q) (h2 : ¬ lessR q p) : p = q := by
  unfold lessR at h1 h2
  obtain ⟨e1, e2⟩ := red_uniq hp.2.2.2.2 hq.2.2.2.2 (by have := hp.1; omega) (by have := hq.1; omega) (show p.1 * q.2 = q.1 * p.2 by omega)
  exact Prod.ext e1 e2
theorem mid_rel {n1 d1 n2 d2 r1 r2 m1 m2 : Int} (hr : 0 < r2) (h1 : r1 * (d1 * d2) = (n1 * d2 + n2 * d1) * r2) (h2 : m1 * (r2 * 2) = r1 * m2) : m1 * 2 * (d1 * d2) = (n1 * d2 + n2 * d1) * m2 := by
  have e : m1 * 2 * (d1 * d2) * r2 = (n1 * d2 + n2 * d1) * m2 * r2 := by
    have e1 := congrArg (· * (d1 * d2)) h2
    have e2 := congrArg (· * m2) h1
    grind
  exact Int.eq_of_mul_eq_mul_right (by omega) e
theorem mid_lo {n1 d1 n2 d2 m1 m2 : Int} (h1 : 0 < d1) (h2 : 0 < d2) (hm : 0 < m2) (e : m1 * 2 * (d1 * d2) = (n1 * d2 + n2 * d1) * m2) (h : n1 * d2 ≤ n2 * d1) : n1 * m2 ≤ m1 * d1 := by
  have e1 : (n1 * d2) * m2 ≤ (n2 * d1) * m2 := Int.mul_le_mul_of_nonneg_right h (by omega)
  have e2 : (n1 * m2) * d2 ≤ (m1 * d1) * d2 := by
    have e3 : m1 * 2 * (d1 * d2) = 2 * ((m1 * d1) * d2) := by grind
    have e4 : (n1 * d2 + n2 * d1) * m2 = (n1 * d2) * m2 + (n2 * d1) * m2 := Int.add_mul ..
    have e5 : (n1 * d2) * m2 = (n1 * m2) * d2 := by grind
    omega
  exact Int.le_of_mul_le_mul_right e2 h2
theorem mid_hi {n1 d1 n2 d2 m1 m2 : Int} (h1 : 0 < d1) (h2 : 0 < d2) (hm : 0 < m2) (e : m1 * 2 * (d1 * d2) = (n1 * d2 + n2 * d1) * m2) (h : n1 * d2 ≤ n2 * d1) : m1 * d2 ≤ n2 * m2 := by
  have e1 : (n1 * d2) * m2 ≤ (n2 * d1) * m2 := Int.mul_le_mul_of_nonneg_right h (by omega)
  have e2 : (m1 * d2) * d1 ≤ (n2 * m2) * d1 := by
    have e3 : m1 * 2 * (d1 * d2) = 2 * ((m1 * d2) * d1) := by grind
    have e4 : (n1 * d2 + n2 * d1) * m2 = (n1 * d2) * m2 + (n2 * d1) * m2 := Int.add_mul ..
    have e5 : (n2 * d1) * m2 = (n2 * m2) * d1 := by grind
    omega
  exact Int.le_of_mul_le_mul_right e2 h1
theorem twice_eq {n1 d1 n2 d2 m1 m2 t1 t2 e1 e2 : Int} (h1 : 0 < d1) (h2 : 0 < d2) (hm : 0 < m2) (e : m1 * 2 * (d1 * d2) = (n1 * d2 + n2 * d1) * m2) (ht : t1 * (m2 * m2) = (m1 * m2 + m1 * m2) * t2) (he : e1 * (d1 * d2) = (n1 * d2 + n2 * d1) * e2) : t1 * e2 = e1 * t2 := by
  have hd : 0 < d1 * d2 := Int.mul_pos h1 h2
  have ht' : t1 * m2 = 2 * m1 * t2 := by
    have : t1 * m2 * m2 = 2 * m1 * t2 * m2 := by grind
    exact Int.eq_of_mul_eq_mul_right (by omega) this
  have hh : t1 * e2 * (m2 * (d1 * d2)) = e1 * t2 * (m2 * (d1 * d2)) := by
    have a1 := congrArg (· * (e2 * (d1 * d2))) ht'
    have a2 := congrArg (· * (t2 * e2)) e
    have a3 := congrArg (· * (m2 * t2)) he
    grind
  have hp := Int.mul_pos hm hd
  exact Int.eq_of_mul_eq_mul_right (by omega) hh
/-- A fraction as an answer, or ErrLarge. -/
noncomputable def toldR (p : R2) : V := bif fitR p then .tup [.agg (ratC p), i64 0] else .tup [.agg [iC 0, iC 0], i64 3]
attribute [local irreducible] compare' semH semC qLen qNil qIad qSlc qIdx ldBox ldCells stBox appX awpF awpOpsF awpDF xopF xopDF qval lval seqQ blockQ loopQ bodyF retKF cnd arith IntKind.wrap

theorem num_Q_Add {S : Int → Prop} {n k : Nat} (hS : SCl S n) (hQ : QuoOk S) {cs ds : List C} {p q : R2} (hx : IsQ cs p) (hy : IsQ ds q) (bp : Bd k p) (bq : Bd k q) (hk : k + k ≤ 268435456) (s1 : S (p.1 * q.2 + q.1 * p.2)) (s2 : S (p.2 * q.2)) : semC Try.prog n_num_Q_Add [.agg cs, .agg ds] (QRedK (p.1 * q.2 + q.1 * p.2) (p.2 * q.2)) := by
  refine semC_of_awpF ok_num_Q_Add rfl (show HFVs [.agg cs, .agg ds] from ⟨hx.hf, hy.hf, trivial⟩) ?_
  obtain ⟨a, b, c, d, e, f, rfl, h1, h2⟩ := hx.six
  obtain ⟨a', b', c', d', e', f', rfl, h3, h4⟩ := hy.six
  have hpos : 0 < p.2 * q.2 := Int.mul_pos bp.pos bq.pos
  refine go2 ?_
  refine semH_of_semC (num_Q_IsInt hx bp.d (by omega)) (fun u hu => ?_)
  obtain ⟨z1, rfl, i1⟩ := hu
  cases z1
  case false =>
    refine go2 ?_
    refine call_C (num_Z_Mul h1 h4 bp.n bq.d (by omega)) (fun u hu => ?_)
    obtain ⟨es, rfl, h5⟩ := hu
    refine go2 ?_
    refine call_C (num_Z_Mul h3 h2 bq.n bp.d (by omega)) (fun u hu => ?_)
    obtain ⟨fs, rfl, h6⟩ := hu
    refine go2 ?_
    refine call_C (num_Z_Add h5 h6 (bp.n.mul bq.d) (bq.n.mul bp.d) (by omega)) (fun u hu => ?_)
    obtain ⟨gs, rfl, h7⟩ := hu
    refine go2 ?_
    refine call_C (num_Z_Mul h2 h4 bp.d bq.d (by omega)) (fun u hu => ?_)
    obtain ⟨ks, rfl, h8⟩ := hu
    refine go2 ?_
    refine call_C (num_Over hS hQ h7 h8 s1 s2 (by omega)) (fun u hu => ?_)
    obtain ⟨gs, r, rfl, r1, r2, r3, r4, r5, r6⟩ := hu
    obtain ⟨x, y, z, w, v, t, rfl, _⟩ := r1.six
    refine go2 ?_
    exact QRedK.fz r1 r2 r3 r4 r5 r6
  case true =>
    have e1 := i1.1 rfl
    refine go2 ?_
    refine semH_of_semC (num_Q_IsInt hy bq.d (by omega)) (fun u hu => ?_)
    obtain ⟨z2, rfl, i2⟩ := hu
    cases z2
    case false =>
      refine go2 ?_
      refine call_C (num_Z_Mul h1 h4 bp.n bq.d (by omega)) (fun u hu => ?_)
      obtain ⟨es, rfl, h5⟩ := hu
      refine go2 ?_
      refine call_C (num_Z_Mul h3 h2 bq.n bp.d (by omega)) (fun u hu => ?_)
      obtain ⟨fs, rfl, h6⟩ := hu
      refine go2 ?_
      refine call_C (num_Z_Add h5 h6 (bp.n.mul bq.d) (bq.n.mul bp.d) (by omega)) (fun u hu => ?_)
      obtain ⟨gs, rfl, h7⟩ := hu
      refine go2 ?_
      refine call_C (num_Z_Mul h2 h4 bp.d bq.d (by omega)) (fun u hu => ?_)
      obtain ⟨ks, rfl, h8⟩ := hu
      refine go2 ?_
      refine call_C (num_Over hS hQ h7 h8 s1 s2 (by omega)) (fun u hu => ?_)
      obtain ⟨gs, r, rfl, r1, r2, r3, r4, r5, r6⟩ := hu
      obtain ⟨x, y, z, w, v, t, rfl, _⟩ := r1.six
      refine go2 ?_
      exact QRedK.fz r1 r2 r3 r4 r5 r6
    case true =>
      have e2 := i2.1 rfl
      refine go2 ?_
      refine call_C (num_Z_Add h1 h3 bp.n bq.n (by omega)) (fun u hu => ?_)
      obtain ⟨es, rfl, h5⟩ := hu
      obtain ⟨x, y, z, rfl⟩ := h5.three
      refine go2 ?_
      refine QRedK.fz (p := (p.1 + q.1, p.2)) (.of h5 h2) bp.pos ?_ ?_ ?_ ?_
      · rw [e1]
        simp
      · rw [e1, e2]
        simp
      · rw [e1, e2]
        simp
      · rw [e1, e2]
        simp

theorem num_Q_Div {S : Int → Prop} {n k : Nat} (hS : SCl S n) (hQ : QuoOk S) {cs ds : List C} {p q : R2} (hx : IsQ cs p) (hy : IsQ ds q) (bp : Bd k p) (bq : Bd k q) (hk : k + k ≤ 268435456) (h0 : q.1 ≠ 0) (s1 : S (p.1 * q.2)) (s2 : S (p.2 * q.1)) : semC Try.prog n_num_Q_Div [.agg cs, .agg ds] (QRedK (p.1 * q.2) (p.2 * q.1)) := by
  refine semC_of_awpF ok_num_Q_Div rfl (show HFVs [.agg cs, .agg ds] from ⟨hx.hf, hy.hf, trivial⟩) ?_
  obtain ⟨a, b, c, d, e, f, rfl, h1, h2⟩ := hx.six
  obtain ⟨a', b', c', d', e', f', rfl, h3, h4⟩ := hy.six
  have hne : p.2 * q.1 ≠ 0 := Int.mul_ne_zero (by have := bp.pos; omega) h0
  refine go2 ?_
  refine call_C (num_Z_Mul h1 h4 bp.n bq.d (by omega)) (fun u hu => ?_)
  obtain ⟨es, rfl, h5⟩ := hu
  refine go2 ?_
  refine call_C (num_Z_Mul h2 h3 bp.d bq.n (by omega)) (fun u hu => ?_)
  obtain ⟨fs, rfl, h6⟩ := hu
  refine go2 ?_
  refine call_C (num_Over hS hQ h5 h6 s1 s2 hne) (fun u hu => ?_)
  obtain ⟨gs, r, rfl, r1, r2, r3, r4, r5, r6⟩ := hu
  obtain ⟨x, y, z, w, v, t, rfl, _⟩ := r1.six
  refine go2 ?_
  exact QRedK.fz r1 r2 r3 r4 r5 r6

def MidK (x : SP) (u : V) : Prop := ∃ cs m, u = .agg cs ∧ IsQ cs m ∧ 0 < m.2 ∧ Int.gcd m.1 m.2 = 1 ∧ m.1 * 2 * (x.1.2 * x.2.2) = (x.1.1 * x.2.2 + x.2.1 * x.1.2) * m.2
theorem span_middle {S : Int → Prop} {n k : Nat} (hS : SCl S n) (hQ : QuoOk S) {cs : List C} {x : SP} (hx : IsE cs x) (bx : BdS k x) (hk : k + k + 2 + (k + k + 2) ≤ 268435456) (s : ∀ z, Sz (k + k + 2 + (k + k + 2)) z → S z) : semC Try.prog n_span_middle [.agg cs] (MidK x) := by
  refine semC_of_awpF ok_span_middle rfl (show HFVs [.agg cs] from ⟨hx.hf, trivial⟩) ?_
  obtain ⟨a, b, c, d, e, f, a', b', c', d', e', f', rfl, q1, q2⟩ := hx.parts
  have z1 : Sz (k + k + 1) (x.1.1 * x.2.2 + x.2.1 * x.1.2) := (bx.lo.n.mul bx.hi.d).add (bx.hi.n.mul bx.lo.d)
  have z2 : Sz (k + k + 1) (x.1.2 * x.2.2) := (bx.lo.d.mul bx.hi.d).up (by omega)
  refine go2 ?_
  refine semH_of_semC (num_Q_Add hS hQ q1 q2 bx.lo bx.hi (by omega) (s _ (z1.up (by omega))) (s _ (z2.up (by omega)))) (fun u hu => ?_)
  obtain ⟨es, r, rfl, i1, red1⟩ := hu.red
  obtain ⟨a1, b1, c1, d1, e1, f1, rfl, _⟩ := i1.six
  refine go2 ?_
  refine semH_of_semC (num_Int (g := 2) (by omega) (by omega)) (fun u hu => ?_)
  obtain ⟨fs, rfl, i2⟩ := hu
  obtain ⟨a2, b2, c2, d2, e2, f2, rfl, _⟩ := i2.six
  have br : Bd (k + k + 2) r := (red1.bd z1 z2 : Bd (k + k + 1) r).up
  have b2' : Bd (k + k + 2) ((2, 1) : R2) := ⟨by unfold Sz; rw [Nat.pow_succ]; have := Nat.pow_pos (n := k + k + 1) (show 0 < 4294967296 by decide); simp only; omega, Sz.one, by simp⟩
  refine go2 ?_
  refine semH_of_semC (num_Q_Div hS hQ i1 i2 br b2' hk (by simp) (s _ (br.n.mul b2'.d)) (s _ (br.d.mul b2'.n))) (fun u hu => ?_)
  obtain ⟨gs, m, rfl, i3, red2⟩ := hu.red
  have hm := red2.eq
  simp only [Int.mul_one] at hm
  obtain ⟨a3, b3, c3, d3, e3, f3, rfl, _⟩ := i3.six
  refine go2 ?_
  exact ⟨_, .agg (.hf i3.hf), _, m, rfl, i3, red2.pos, red2.gcd, mid_rel red1.pos red1.eq hm⟩

theorem rat_Validate (p : R2) : semC Try.prog n_rat_Validate [.agg (ratC p)] (EqK (bif dec (IsRat p.1 p.2) then i64 0 else i64 1)) := by
  refine semC_of_awpF ok_rat_Validate rfl (show HFVs [.agg (ratC p)] from ⟨HFL_rat p, trivial⟩) ?_
  refine go2 ?_
  refine semH_of_semC (num_Valid p.1 p.2) (fun u hu => ?_)
  obtain ⟨z, rfl, h⟩ := hu
  unfold EqK
  cases z
  · rw [dec_false.2 (fun h' => absurd (h.2 h') (by decide))]
    refine go2 ?_
    exact ⟨_, .c (.hf trivial), rfl⟩
  · rw [dec_true.2 (h.1 rfl)]
    refine go2 ?_
    exact ⟨_, .c (.hf trivial), rfl⟩
theorem rat_check (l : List R2) (hl : l.length < 1073741824) : semC Try.prog n_rat_check [.c (.imm l.length (l.flatMap ratC))] (EqK (bif dec (∀ p ∈ l, IsRat p.1 p.2) then i64 0 else i64 1)) := by
  refine semC_of_awpF ok_rat_check rfl (show HFVs [.c (.imm l.length (l.flatMap ratC))] from ⟨HFL_rats l, trivial⟩) ?_
  unfold EqK
  refine go2 ?_
  refine f_loop (fun n vs H => ∃ i : Nat, vs = [.c (.imm l.length (l.flatMap ratC)), i64 l.length, i64 i] ∧ n = l.length - i ∧ i ≤ l.length ∧ ∀ p ∈ l.take i, IsRat p.1 p.2) (by rfl) ⟨0, rfl, rfl, by omega, by simp⟩ ?_
  rintro n vs H ⟨i, rfl, rfl, h1, h2⟩
  refine go2 ?_
  cases hq : compare' Cm.lss (i : Int) (l.length : Int)
  · simp [compare'] at hq
    have ei : i = l.length := by omega
    subst ei
    rw [List.take_length] at h2
    rw [dec_true.2 h2]
    refine go2 ?_
    exact ⟨_, .c (.hf trivial), rfl⟩
  · simp [compare'] at hq
    refine go2 ?_
    refine idx_imm (by rfl) (by rfl) (by omega) (by omega) ?_
    refine go2 ?_
    refine ld_elem (i := i) (fun x _ => rfl) hq (by omega) ?_
    refine go2 ?_
    refine semH_of_semC (rat_Validate l[i]) (fun u hu => ?_)
    obtain rfl := hu
    cases ho : dec (IsRat l[i].1 l[i].2)
    · rw [dec_false.2 (fun h => dec_false.1 ho (h _ (getL_mem hq)))]
      refine go2 ?_
      refine c_t (by simp [compare']) ?_
      refine go2 ?_
      exact ⟨_, .c (.hf trivial), rfl⟩
    · refine go2 ?_
      refine c_f (by simp [compare']) ?_
      refine go2 ?_
      rw [addI1 i (by omega)]
      refine l_n (by rfl) (by omega) ⟨i + 1, rfl, rfl, by omega, fun x hx => ?_⟩
      rw [List.take_succ_eq_append_getElem hq] at hx
      rcases List.mem_append.1 hx with h | h
      · exact h2 x h
      · simp at h
        subst h
        exact dec_true.1 ho
theorem rat_told {cs : List C} {p : R2} (hx : IsQ cs p) (hp : 0 < p.2) : semC Try.prog n_rat_told [.agg cs] (EqK (toldR p)) := by
  refine semC_of_awpF ok_rat_told rfl (show HFVs [.agg cs] from ⟨hx.hf, trivial⟩) ?_
  obtain ⟨a, b, c, d, e, f, rfl, _⟩ := hx.six
  unfold EqK toldR
  refine go2 ?_
  refine semH_of_semC (num_Q_Out hx hp) (fun u hu => ?_)
  obtain rfl := hu
  unfold outV
  cases f1 : fitR p
  · refine go2 ?_
    exact ⟨_, .tup (.cons (.agg (.hf ⟨trivial, trivial, trivial⟩)) (.cons (.c (.hf trivial)) .nil)), rfl⟩
  · refine go2 ?_
    exact ⟨_, .tup (.cons (.agg (.hf (HFL_rat p))) (.cons (.c (.hf trivial)) .nil)), rfl⟩
/-- A sum of two numbers as an answer. -/
def SumK (p q : R2) (u : V) : Prop := ∃ r, Red (p.1 * q.2 + q.1 * p.2) (p.2 * q.2) r ∧ u = toldR r
theorem rat_with_Add {S : Int → Prop} {n : Nat} (hS : SCl S n) (hQ : QuoOk S) (s : ∀ z, Sz 5 z → S z) {p q : R2} (hp : IsRat p.1 p.2) (hq : IsRat q.1 q.2) : semC Try.prog n_rat_with [.agg (ratC p), .agg (ratC q), .c (.fn n_num_Q_Add [])] (SumK p q) := by
  refine semC_of_awpF ok_rat_with rfl (show HFVs [.agg (ratC p), .agg (ratC q), .c (.fn n_num_Q_Add [])] from ⟨HFL_rat p, HFL_rat q, trivial, trivial⟩) ?_
  refine go2 ?_
  refine semH_of_semC_close [3] (.cons (.c (fz_sl (ds := [p, q].flatMap ratC) (by rfl) (by rfl) (by simp) (by rfl) (HFL_rats [p, q]))) .nil) (rat_check [p, q] (by simp)) (fun u hu => ?_)
  obtain rfl := hu
  rw [dec_true.2 (by simp; exact ⟨hp, hq⟩)]
  simp only [spanC, zeroC, ratC, zeroE, zeroS, List.set_cons_zero, List.set_cons_succ, List.nil_append, List.cons_append, List.append_nil, List.replicate_succ, List.replicate_zero, List.length_cons, List.length_nil, splice, List.take_succ_cons, List.take_zero, List.drop_succ_cons, List.drop_zero, List.take_nil, List.drop_nil, Nat.zero_add, Nat.reduceAdd, Nat.reduceMul, Int.reduceToNat, closeB, List.getElem?_cons_succ, List.getElem?_cons_zero]
  refine go2 ?_
  refine c_f (by simp [compare']) ?_
  refine go2 ?_
  refine call_C (num_Of hp) (fun u hu => ?_)
  obtain ⟨cs, rfl, i1⟩ := hu
  refine go2 ?_
  refine call_C (num_Of hq) (fun u hu => ?_)
  obtain ⟨ds, rfl, i2⟩ := hu
  have bp := hp.bd
  have bq := hq.bd
  refine go2 ?_
  refine call_C (num_Q_Add hS hQ i1 i2 bp bq (by decide) (s _ ((bp.n.mul bq.d).add (bq.n.mul bp.d))) (s _ ((bp.d.mul bq.d).up (by decide)))) (fun u hu => ?_)
  obtain ⟨es, r, rfl, i3, red1⟩ := hu.red
  refine go2 ?_
  refine call_C (rat_told i3 red1.pos) (fun u hu => ?_)
  obtain rfl := hu
  unfold toldR
  cases f1 : fitR r
  · refine go2 ?_
    exact ⟨_, .tup (.cons (.agg (.hf ⟨trivial, trivial, trivial⟩)) (.cons (.c (.hf trivial)) .nil)), r, red1, by unfold toldR; rw [f1]; rfl⟩
  · refine go2 ?_
    exact ⟨_, .tup (.cons (.agg (.hf (HFL_rat r))) (.cons (.c (.hf trivial)) .nil)), r, red1, by unfold toldR; rw [f1]; rfl⟩
theorem rat_Add {S : Int → Prop} {n : Nat} (hS : SCl S n) (hQ : QuoOk S) (s : ∀ z, Sz 5 z → S z) {p q : R2} (hp : IsRat p.1 p.2) (hq : IsRat q.1 q.2) : semC Try.prog n_rat_Add [.agg (ratC p), .agg (ratC q)] (SumK p q) := by
  refine semC_of_awpF ok_rat_Add rfl (show HFVs [.agg (ratC p), .agg (ratC q)] from ⟨HFL_rat p, HFL_rat q, trivial⟩) ?_
  refine go2 ?_
  refine semH_of_semC (rat_with_Add hS hQ s hp hq) (fun u hu => ?_)
  obtain ⟨r, red1, rfl⟩ := hu
  unfold toldR
  cases f1 : fitR r
  · refine go2 ?_
    exact ⟨_, .tup (.cons (.agg (.hf ⟨trivial, trivial, trivial⟩)) (.cons (.c (.hf trivial)) .nil)), r, red1, by unfold toldR; rw [f1]; rfl⟩
  · refine go2 ?_
    exact ⟨_, .tup (.cons (.agg (.hf (HFL_rat r))) (.cons (.c (.hf trivial)) .nil)), r, red1, by unfold toldR; rw [f1]; rfl⟩

/-- The halves of a span, if its middle is representable. -/
def HalvesK (x : SP) (u : V) : Prop := (∃ e, e ≠ 0 ∧ u = .tup [.agg zeroC, .agg zeroC, i64 e]) ∨ (SpanOk x ∧ ∃ m : R2, IsRat m.1 m.2 ∧ m.1 * 2 * (x.1.2 * x.2.2) = (x.1.1 * x.2.2 + x.2.1 * x.1.2) * m.2 ∧ u = .tup [.agg (spanC (x.1, m)), .agg (spanC (m, x.2)), i64 0])
theorem span_Halves {S : Int → Prop} {n : Nat} (hS : SCl S n) (hQ : QuoOk S) (s : ∀ z, Sz 12 z → S z) (x : SP) : semC Try.prog n_span_Halves [.agg (spanC x)] (HalvesK x) := by
  refine semC_of_awpF ok_span_Halves rfl (show HFVs [.agg (spanC x)] from ⟨HFL_span x, trivial⟩) ?_
  refine go2 ?_
  refine semH_of_semC (span_Validate x) (fun u hu => ?_)
  obtain rfl := hu
  unfold errV
  cases h1 : dec (SpanOk x)
  case false =>
    refine go2 ?_
    refine c_t (by simp [compare']) ?_
    refine go2 ?_
    exact ⟨_, .tup (.cons (.agg (.hf HFL_zero)) (.cons (.agg (.hf HFL_zero)) (.cons (.c (.hf trivial)) .nil))), .inl ⟨1, by decide, rfl⟩⟩
  have ok := dec_true.1 h1
  refine go2 ?_
  refine c_f (by simp [compare']) ?_
  refine go2 ?_
  refine semH_of_semC (span_of ok.1 ok.2.1) (fun u hu => ?_)
  obtain ⟨cs, rfl, i1⟩ := hu
  obtain ⟨a, b, c, d, e, f, a', b', c', d', e', f', rfl, _⟩ := i1.parts
  refine go2 ?_
  refine semH_of_semC (span_middle hS hQ i1 ok.bd (by decide) s) (fun u hu => ?_)
  obtain ⟨ds, m, rfl, i2, m1, m2, m3⟩ := hu
  obtain ⟨a, b, c, d, e, f, rfl, _⟩ := i2.six
  refine go2 ?_
  refine semH_of_semC (num_Q_Out i2 m1) (fun u hu => ?_)
  obtain rfl := hu
  unfold outV
  cases f1 : fitR m
  · refine go2 ?_
    exact ⟨_, .tup (.cons (.agg (.hf HFL_zero)) (.cons (.agg (.hf HFL_zero)) (.cons (.c (.hf trivial)) .nil))), .inl ⟨3, by decide, rfl⟩⟩
  · unfold fitR at f1
    have f2 := dec_true.1 f1
    refine go2 ?_
    simp only [spanC, zeroC, ratC, zeroE, zeroS, List.set_cons_zero, List.set_cons_succ, List.nil_append, List.cons_append, List.append_nil, List.replicate_succ, List.replicate_zero, List.length_cons, List.length_nil, splice, List.take_succ_cons, List.take_zero, List.drop_succ_cons, List.drop_zero, List.take_nil, List.drop_nil, Nat.zero_add, Nat.reduceAdd, Nat.reduceMul, Int.reduceToNat, closeB, List.getElem?_cons_succ, List.getElem?_cons_zero]
    exact ⟨_, .tup (.cons (.agg (.hf (HFL_span (x.1, m)))) (.cons (.agg (.hf (HFL_span (m, x.2)))) (.cons (.c (.hf trivial)) .nil))), .inr ⟨ok, m, ⟨by omega, f2.2.2, f2.1, f2.2.1, m2⟩, m3, rfl⟩⟩
end Go.Proofs.Ytjncgcnofiaiaaa

/-
  The law of halves: its own function.
-/
set_option linter.unusedVariables false
set_option linter.unusedSimpArgs false
namespace Go.Proofs.Ytjncgcnofiaiaaa
open Go.RowKit
set_option maxRecDepth 20000

theorem mx_hi {p q : R2} (hp : IsRat p.1 p.2) (hq : IsRat q.1 q.2) (h : ¬ lessR q p) : mxR p q = q := by
  unfold mxR
  cases hd : dec (lessR p q)
  · exact uniq_R hp hq (dec_false.1 hd) h
  · rfl
theorem mn_lo {p q : R2} (h : ¬ lessR q p) : mnR p q = p := by
  unfold mnR
  rw [dec_false.2 h]
  rfl
theorem mn_same (p : R2) : mnR p p = p := mn_lo (lessR_irr p)
theorem mx_same (p : R2) : mxR p p = p := by
  unfold mxR
  rw [dec_false.2 (lessR_irr p)]
  rfl
theorem half_parts {x : SP} {m : R2} (hx : SpanOk x) (hm : IsRat m.1 m.2) (e : m.1 * 2 * (x.1.2 * x.2.2) = (x.1.1 * x.2.2 + x.2.1 * x.1.2) * m.2) : ¬ lessR m x.1 ∧ ¬ lessR x.2 m := by
  have hle : x.1.1 * x.2.2 ≤ x.2.1 * x.1.2 := by
    have := hx.2.2
    unfold lessR at this
    omega
  have h1 := mid_lo (by have := hx.1.1; omega) (by have := hx.2.1.1; omega) (by have := hm.1; omega) e hle
  have h2 := mid_hi (by have := hx.1.1; omega) (by have := hx.2.1.1; omega) (by have := hm.1; omega) e hle
  unfold lessR
  exact ⟨by omega, by omega⟩
theorem half_ok {x : SP} {m : R2} (hx : SpanOk x) (hm : IsRat m.1 m.2) (h : ¬ lessR m x.1 ∧ ¬ lessR x.2 m) : SpanOk (x.1, m) ∧ SpanOk (m, x.2) := ⟨⟨hx.1, hm, h.1⟩, ⟨hm, hx.2.1, h.2⟩⟩
theorem half_hull {x : SP} {m : R2} (hx : SpanOk x) (hm : IsRat m.1 m.2) (h : ¬ lessR m x.1 ∧ ¬ lessR x.2 m) : hullV (x.1, m) (m, x.2) = .tup [.agg (spanC x), i64 0] := by
  have e : hullR (x.1, m) (m, x.2) = x := by
    unfold hullR
    simp only [List.foldl_cons, List.foldl_nil]
    rw [wider_self]
    unfold wider
    simp only
    rw [mn_lo h.1, mx_hi hx.1 hm h.1, mn_lo h.1, mx_same, mn_lo hx.2.2, mx_hi hm hx.2.1 h.2]
  unfold hullV okB
  rw [dec_true.2 (half_ok hx hm h), e]
  rfl
theorem half_meet {x : SP} {m : R2} (hx : SpanOk x) (hm : IsRat m.1 m.2) (h : ¬ lessR m x.1 ∧ ¬ lessR x.2 m) : meetV (x.1, m) (m, x.2) = .tup [.agg (spanC (m, m)), .c (.bool true), i64 0] := by
  have e : meetR (x.1, m) (m, x.2) = (m, m) := by
    unfold meetR
    simp only
    rw [mx_hi hx.1 hm h.1, mn_lo h.2]
  unfold meetV okB
  rw [dec_true.2 (half_ok hx hm h), e]
  simp only
  rw [dec_false.2 (lessR_irr m)]
  rfl
theorem cm_eq (a : Int) : compare' Cm.eql a a = true := dec_true.2 rfl
theorem cm_neq (a : Int) : compare' Cm.neq a a = false := by simp [compare']
theorem neq_three : compare' Cm.neq 3 0 = true := by simp [compare']
theorem sums_eq {x : SP} {m t f : R2} (hx : SpanOk x) (hm : IsRat m.1 m.2) (e : m.1 * 2 * (x.1.2 * x.2.2) = (x.1.1 * x.2.2 + x.2.1 * x.1.2) * m.2) (ht : Red (m.1 * m.2 + m.1 * m.2) (m.2 * m.2) t) (hf : Red (x.1.1 * x.2.2 + x.2.1 * x.1.2) (x.1.2 * x.2.2) f) : t = f := by
  have h := twice_eq (by have := hx.1.1; omega) (by have := hx.2.1.1; omega) (by have := hm.1; omega) e ht.eq hf.eq
  obtain ⟨e1, e2⟩ := red_uniq ht.gcd hf.gcd ht.pos hf.pos h
  exact Prod.ext e1 e2
attribute [local irreducible] compare' semH semC qLen qNil qIad qSlc qIdx ldBox ldCells stBox appX awpF awpOpsF awpDF xopF xopDF qval lval seqQ blockQ loopQ bodyF retKF cnd arith IntKind.wrap

theorem law05_SpanHalves (x : SP) : semC Try.prog n_law05_SpanHalves [.agg (spanC x)] (EqK (.c (.bool true))) := by
  refine semC_of_awpF ok_law05_SpanHalves rfl (show HFVs [.agg (spanC x)] from ⟨HFL_span x, trivial⟩) ?_
  have hS := Sz.cl (n := 64) (by decide)
  have hQ := quoOk (n := 64) (by decide)
  refine go2 ?_
  refine semH_of_semC (span_Halves hS hQ (fun z h => h.up (by decide)) x) (fun u hu => ?_)
  rcases hu with ⟨e, he, rfl⟩ | ⟨ok, m, hm, rel, rfl⟩
  · refine go2 ?_
    refine c_t (by simp [compare', he]) ?_
    refine go2 ?_
    refine semH_of_semC law05_known (fun u hu => ?_)
    obtain rfl := hu
    refine go2 ?_
    exact ⟨_, .c (.hf trivial), rfl⟩
  have hp := half_parts ok hm rel
  refine go2 ?_
  refine c_f (by simp [compare']) ?_
  refine go2 ?_
  simp only [spanC, zeroC, ratC, zeroE, zeroS, List.set_cons_zero, List.set_cons_succ, List.nil_append, List.cons_append, List.append_nil, List.replicate_succ, List.replicate_zero, List.length_cons, List.length_nil, splice, List.take_succ_cons, List.take_zero, List.drop_succ_cons, List.drop_zero, List.take_nil, List.drop_nil, Nat.zero_add, Nat.reduceAdd, Nat.reduceMul, Int.reduceToNat, closeB, List.getElem?_cons_succ, List.getElem?_cons_zero]
  refine semH_of_semC (span_Hull (x.1, m) (m, x.2)) (fun u hu => ?_)
  obtain rfl := hu
  rw [half_hull ok hm hp]
  refine go2 ?_
  refine semH_of_semC (span_Meet (x.1, m) (m, x.2)) (fun u hu => ?_)
  obtain rfl := hu
  rw [half_meet ok hm hp]
  refine go2 ?_
  simp only [spanC, zeroC, ratC, zeroE, zeroS, List.set_cons_zero, List.set_cons_succ, List.nil_append, List.cons_append, List.append_nil, List.replicate_succ, List.replicate_zero, List.length_cons, List.length_nil, splice, List.take_succ_cons, List.take_zero, List.drop_succ_cons, List.drop_zero, List.take_nil, List.drop_nil, Nat.zero_add, Nat.reduceAdd, Nat.reduceMul, Int.reduceToNat, closeB, List.getElem?_cons_succ, List.getElem?_cons_zero]
  refine semH_of_semC (rat_Add hS hQ (fun z h => h.up (by decide)) hm hm) (fun u hu => ?_)
  obtain ⟨t, red1, rfl⟩ := hu
  unfold toldR
  cases f1 : fitR t
  case false =>
    refine go2 ?_
    refine semH_of_semC (rat_Add hS hQ (fun z h => h.up (by decide)) ok.1 ok.2.1) (fun u hu => ?_)
    obtain ⟨f, red2, rfl⟩ := hu
    unfold toldR
    cases f2 : fitR f
    · refine go2 ?_
      simp only [spanC, zeroC, ratC, zeroE, zeroS, List.set_cons_zero, List.set_cons_succ, List.nil_append, List.cons_append, List.append_nil, List.replicate_succ, List.replicate_zero, List.length_cons, List.length_nil, splice, List.take_succ_cons, List.take_zero, List.drop_succ_cons, List.drop_zero, List.take_nil, List.drop_nil, Nat.zero_add, Nat.reduceAdd, Nat.reduceMul, Int.reduceToNat, closeB, List.getElem?_cons_succ, List.getElem?_cons_zero]
      try simp only [cm_eq, cm_neq, neq_three, beq_self_eq_true, Bool.and_self, cond_true, cond_false, Bool.not_true, Bool.not_false]
      refine go2 ?_
      try simp only [cm_eq, cm_neq, neq_three, beq_self_eq_true, Bool.and_self, cond_true, cond_false, Bool.not_true, Bool.not_false]
      refine go2 ?_
      try simp only [cm_eq, cm_neq, neq_three, beq_self_eq_true, Bool.and_self, cond_true, cond_false, Bool.not_true, Bool.not_false]
      refine go2 ?_
      try simp only [cm_eq, cm_neq, neq_three, beq_self_eq_true, Bool.and_self, cond_true, cond_false, Bool.not_true, Bool.not_false]
      refine go2 ?_
      try simp only [cm_eq, cm_neq, neq_three, beq_self_eq_true, Bool.and_self, cond_true, cond_false, Bool.not_true, Bool.not_false]
      refine go2 ?_
      try simp only [cm_eq, cm_neq, neq_three, beq_self_eq_true, Bool.and_self, cond_true, cond_false, Bool.not_true, Bool.not_false]
      refine go2 ?_
      try simp only [cm_eq, cm_neq, neq_three, beq_self_eq_true, Bool.and_self, cond_true, cond_false, Bool.not_true, Bool.not_false]
      refine go2 ?_
      refine semH_of_semC law05_known (fun u hu => ?_)
      obtain rfl := hu
      refine go2 ?_
      exact ⟨_, .c (.hf trivial), rfl⟩
    · refine go2 ?_
      simp only [spanC, zeroC, ratC, zeroE, zeroS, List.set_cons_zero, List.set_cons_succ, List.nil_append, List.cons_append, List.append_nil, List.replicate_succ, List.replicate_zero, List.length_cons, List.length_nil, splice, List.take_succ_cons, List.take_zero, List.drop_succ_cons, List.drop_zero, List.take_nil, List.drop_nil, Nat.zero_add, Nat.reduceAdd, Nat.reduceMul, Int.reduceToNat, closeB, List.getElem?_cons_succ, List.getElem?_cons_zero]
      try simp only [cm_eq, cm_neq, neq_three, beq_self_eq_true, Bool.and_self, cond_true, cond_false, Bool.not_true, Bool.not_false]
      refine go2 ?_
      try simp only [cm_eq, cm_neq, neq_three, beq_self_eq_true, Bool.and_self, cond_true, cond_false, Bool.not_true, Bool.not_false]
      refine go2 ?_
      try simp only [cm_eq, cm_neq, neq_three, beq_self_eq_true, Bool.and_self, cond_true, cond_false, Bool.not_true, Bool.not_false]
      refine go2 ?_
      try simp only [cm_eq, cm_neq, neq_three, beq_self_eq_true, Bool.and_self, cond_true, cond_false, Bool.not_true, Bool.not_false]
      refine go2 ?_
      try simp only [cm_eq, cm_neq, neq_three, beq_self_eq_true, Bool.and_self, cond_true, cond_false, Bool.not_true, Bool.not_false]
      refine go2 ?_
      try simp only [cm_eq, cm_neq, neq_three, beq_self_eq_true, Bool.and_self, cond_true, cond_false, Bool.not_true, Bool.not_false]
      refine go2 ?_
      try simp only [cm_eq, cm_neq, neq_three, beq_self_eq_true, Bool.and_self, cond_true, cond_false, Bool.not_true, Bool.not_false]
      refine go2 ?_
      refine semH_of_semC law05_known (fun u hu => ?_)
      obtain rfl := hu
      refine go2 ?_
      exact ⟨_, .c (.hf trivial), rfl⟩
  case true =>
    refine go2 ?_
    refine semH_of_semC (rat_Add hS hQ (fun z h => h.up (by decide)) ok.1 ok.2.1) (fun u hu => ?_)
    obtain ⟨f, red2, rfl⟩ := hu
    obtain rfl := sums_eq ok hm rel red1 red2
    unfold toldR
    rw [f1]
    refine go2 ?_
    simp only [spanC, zeroC, ratC, zeroE, zeroS, List.set_cons_zero, List.set_cons_succ, List.nil_append, List.cons_append, List.append_nil, List.replicate_succ, List.replicate_zero, List.length_cons, List.length_nil, splice, List.take_succ_cons, List.take_zero, List.drop_succ_cons, List.drop_zero, List.take_nil, List.drop_nil, Nat.zero_add, Nat.reduceAdd, Nat.reduceMul, Int.reduceToNat, closeB, List.getElem?_cons_succ, List.getElem?_cons_zero]
    try simp only [cm_eq, cm_neq, neq_three, beq_self_eq_true, Bool.and_self, cond_true, cond_false, Bool.not_true, Bool.not_false]
    refine go2 ?_
    try simp only [cm_eq, cm_neq, neq_three, beq_self_eq_true, Bool.and_self, cond_true, cond_false, Bool.not_true, Bool.not_false]
    refine go2 ?_
    try simp only [cm_eq, cm_neq, neq_three, beq_self_eq_true, Bool.and_self, cond_true, cond_false, Bool.not_true, Bool.not_false]
    refine go2 ?_
    try simp only [cm_eq, cm_neq, neq_three, beq_self_eq_true, Bool.and_self, cond_true, cond_false, Bool.not_true, Bool.not_false]
    refine go2 ?_
    try simp only [cm_eq, cm_neq, neq_three, beq_self_eq_true, Bool.and_self, cond_true, cond_false, Bool.not_true, Bool.not_false]
    refine go2 ?_
    try simp only [cm_eq, cm_neq, neq_three, beq_self_eq_true, Bool.and_self, cond_true, cond_false, Bool.not_true, Bool.not_false]
    refine go2 ?_
    try simp only [cm_eq, cm_neq, neq_three, beq_self_eq_true, Bool.and_self, cond_true, cond_false, Bool.not_true, Bool.not_false]
    refine go2 ?_
    refine semH_of_semC law05_known (fun u hu => ?_)
    obtain rfl := hu
    refine go2 ?_
    exact ⟨_, .c (.hf trivial), rfl⟩
end Go.Proofs.Ytjncgcnofiaiaaa
