/-
  num: Over, IsInt, Int, Mul, Floor, Ceil, Down, Up.
-/
import Derived.Test.YtjncgcnofiaiaaaViE
set_option linter.unusedVariables false
set_option linter.unusedSimpArgs false
namespace Go.Proofs.Ytjncgcnofiaiaaa
open Go.RowKit
set_option maxRecDepth 20000

theorem sgn_neg_iff (z : Int) : sgn z < 0 ↔ z < 0 := by
  unfold sgn
  split
  · omega
  · split <;> omega
theorem sgn_zero_iff (z : Int) : sgn z = 0 ↔ z = 0 := by
  unfold sgn
  split
  · omega
  · split <;> omega
theorem Sz.up {n m : Nat} {z : Int} (h : Sz n z) (hm : n ≤ m) : Sz m z := Nat.lt_of_lt_of_le h (Nat.pow_le_pow_right (by decide) hm)
theorem Sz.one {n : Nat} : Sz (n + 1) 1 := by
  unfold Sz
  rw [Nat.pow_succ]
  have := Nat.pow_pos (n := n) (show 0 < 4294967296 by decide)
  omega
theorem gcd_le {n d : Int} (hd : d ≠ 0) : ((Int.gcd n d : Nat) : Int).natAbs ≤ d.natAbs := by
  rw [Int.natAbs_natCast]
  exact Nat.le_of_dvd (by omega) (Nat.gcd_dvd_right _ _)
theorem ediv_le {a b : Int} (hb : 0 < b) : (a / b).natAbs ≤ a.natAbs := by
  rw [floor_eq hb]
  have h1 := tdiv_le a b
  split
  · rename_i h
    have e := Int.mul_tdiv_add_tmod a b
    rcases Int.lt_trichotomy a 0 with ha | ha | ha
    · -- a < 0: the quotient is at most 0, and one less is at least a
      rcases Int.lt_or_le (a.tdiv b) 1 with hq | hq
      · have h2 : a.tdiv b * b ≤ a.tdiv b * 1 := Int.mul_le_mul_of_nonpos_left (by omega) (by omega)
        rw [Int.mul_comm b] at e
        omega
      · have h2 : 0 < b * a.tdiv b := Int.mul_pos hb (by omega)
        have h3 := Int.tmod_lt_of_pos a hb
        omega
    · subst ha
      simp at h
    · have := Int.tmod_nonneg b (a := a) (by omega)
      omega
  · exact h1
theorem red_floor {p1 p2 n d : Int} (h2 : 0 < p2) (hd : 0 < d) (h : p1 * d = n * p2) : p1 / p2 = n / d := by
  have e1 := Int.mul_ediv_mul_of_pos_left p1 p2 hd
  have e2 := Int.mul_ediv_mul_of_pos_left n d h2
  rw [← e1, ← e2, h, Int.mul_comm p2 d]
attribute [local irreducible] compare' semH semC qLen qNil qIad qSlc qIdx ldBox ldCells stBox appX awpF awpOpsF awpDF xopF xopDF qval lval seqQ blockQ loopQ bodyF retKF cnd arith IntKind.wrap

set_option maxHeartbeats 1000000 in
theorem num_Over {S : Int → Prop} {k : Nat} (hS : SCl S k) (hQ : QuoOk S) {cs ds : List C} {n d : Int} (hx : IsZ cs n) (hy : IsZ ds d) (sn : S n) (sd : S d) (h0 : d ≠ 0) : semC Try.prog n_num_Over [.agg cs, .agg ds] (QRedK n d) := by
  refine semC_of_awpF ok_num_Over rfl (show HFVs [.agg cs, .agg ds] from ⟨hx.hf, hy.hf, trivial⟩) ?_
  obtain ⟨a1, a2, a3, rfl⟩ := hx.three
  obtain ⟨b1, b2, b3, rfl⟩ := hy.three
  have hk := hS.n
  refine go2 ?_
  refine semH_of_semC (num_Z_Sign hy) (fun u hu => ?_)
  obtain rfl := hu
  refine go2 ?_
  cases hc : compare' Cm.lss (sgn d) 0
  case false =>
    have hp : 0 < d := by
      simp only [compare', dec_false] at hc
      have := (sgn_neg_iff d).2
      omega
    have rel : ∀ a b : Int, a * d = n * b → a * d = n * b := fun _ _ h => h
    have en : n.natAbs = n.natAbs := rfl
    have ed : d.natAbs = d.natAbs := rfl
    have hn1 := hx
    have hd1 := hy
    have sn1 := sn
    have sd1 := sd
    refine go2 ?_
    refine semH_of_semC (num_Gcd hS hQ hn1 hd1 sn1 sd1) (fun u hu => ?_)
    obtain ⟨gs, rfl, hg⟩ := hu
    obtain ⟨t1, t2, t3⟩ := gcd_tdiv (n := n) (d := d) hp
    have sg : S ((Int.gcd n d : Nat) : Int) := hS.le _ _ sd1 (gcd_le (by omega))
    have g0 : 0 < Int.gcd n d := Int.gcd_pos_of_ne_zero_right _ (by omega)
    have fin : ∀ {H : Hp} {q r : List C}, IsZ q (n.tdiv (Int.gcd n d : Nat)) → IsZ r (d.tdiv (Int.gcd n d : Nat)) → ∃ e, FzV H (.agg (q ++ r)) e ∧ QRedK n d e := fun h1 h2 =>
      QRedK.fz (p := (n.tdiv (Int.gcd n d : Nat), d.tdiv (Int.gcd n d : Nat))) (.mk h1 h2) t3 t1 (rel _ _ t2) (by have := tdiv_le n (Int.gcd n d : Nat); simp only; omega) (by have := tdiv_le d (Int.gcd n d : Nat); simp only; omega)
    have hg' := hg
    obtain ⟨c1, c2, c3, rfl⟩ := hg'.three
    refine go2 ?_
    rcases hg.look with ⟨ex, x1, x2⟩ | ⟨lx, nx, ex, xn, xv, xe⟩
    · simp only [List.cons.injEq, and_true] at ex
      obtain ⟨rfl, rfl, rfl⟩ := ex
      refine go2 ?_
      cases hq : compare' Cm.neq ((Int.gcd n d : Nat) : Int) 1
      case false =>
        simp only [compare', dec_false] at hq
        have e1 : ((Int.gcd n d : Nat) : Int) = 1 := Decidable.byContradiction hq
        rw [e1, Int.tdiv_one, Int.tdiv_one] at fin
        refine go2 ?_
        exact fin hn1 hd1
      case true =>
        refine go2 ?_
        refine semH_of_semC (hQ _ _ _ _ hn1 hg sn1 sg (by omega)) (fun u hu => ?_)
        obtain ⟨es, fs, rfl, h1, h2⟩ := hu
        obtain ⟨q1, q2, q3, rfl⟩ := h1.three
        obtain ⟨_, _, _, rfl⟩ := h2.three
        refine go2 ?_
        refine semH_of_semC (hQ _ _ _ _ hd1 hg sd1 sg (by omega)) (fun u hu => ?_)
        obtain ⟨es, fs, rfl, h3, h4⟩ := hu
        obtain ⟨r1, r2, r3, rfl⟩ := h3.three
        obtain ⟨_, _, _, rfl⟩ := h4.three
        refine go2 ?_
        exact fin h1 h3
    · simp only [List.cons.injEq, and_true] at ex
      obtain ⟨rfl, rfl, rfl⟩ := ex
      refine go2 ?_
      refine semH_of_semC (hQ _ _ _ _ hn1 hg sn1 sg (by omega)) (fun u hu => ?_)
      obtain ⟨es, fs, rfl, h1, h2⟩ := hu
      obtain ⟨q1, q2, q3, rfl⟩ := h1.three
      obtain ⟨_, _, _, rfl⟩ := h2.three
      refine go2 ?_
      refine semH_of_semC (hQ _ _ _ _ hd1 hg sd1 sg (by omega)) (fun u hu => ?_)
      obtain ⟨es, fs, rfl, h3, h4⟩ := hu
      obtain ⟨r1, r2, r3, rfl⟩ := h3.three
      obtain ⟨_, _, _, rfl⟩ := h4.three
      refine go2 ?_
      exact fin h1 h3
  case true =>
    have hp : 0 < -d := by
      simp only [compare', dec_true] at hc
      have := (sgn_neg_iff d).1 hc
      omega
    refine go2 ?_
    refine call_C (num_Z_Neg hx (hS.sz _ sn) (by omega)) (fun u hu => ?_)
    obtain ⟨es, rfl, hn1⟩ := hu
    refine go2 ?_
    refine call_C (num_Z_Neg hy (hS.sz _ sd) (by omega)) (fun u hu => ?_)
    obtain ⟨fs, rfl, hd1⟩ := hu
    obtain ⟨a1, a2, a3, rfl⟩ := hn1.three
    obtain ⟨b1, b2, b3, rfl⟩ := hd1.three
    have rel : ∀ a b : Int, a * -d = -n * b → a * d = n * b := fun a b h => by
      rw [Int.mul_neg, Int.neg_mul] at h
      omega
    have en : (-n).natAbs = n.natAbs := Int.natAbs_neg n
    have ed : (-d).natAbs = d.natAbs := Int.natAbs_neg d
    have sn1 : S (-n) := hS.le _ _ sn (by omega)
    have sd1 : S (-d) := hS.le _ _ sd (by omega)
    generalize -n = n1 at hn1 rel en sn1
    generalize -d = d1 at hd1 rel ed hp sd1
    refine go2 ?_
    simp only [spanC, zeroC, ratC, zeroE, zeroS, List.set_cons_zero, List.set_cons_succ, List.nil_append, List.cons_append, List.append_nil, List.replicate_succ, List.replicate_zero, List.length_cons, List.length_nil, splice, List.take_succ_cons, List.take_zero, List.drop_succ_cons, List.drop_zero, List.take_nil, List.drop_nil, Nat.zero_add, Nat.reduceAdd, Nat.reduceMul, Int.reduceToNat, closeB, List.getElem?_cons_succ, List.getElem?_cons_zero]
    refine semH_of_semC (num_Gcd hS hQ hn1 hd1 sn1 sd1) (fun u hu => ?_)
    obtain ⟨gs, rfl, hg⟩ := hu
    obtain ⟨t1, t2, t3⟩ := gcd_tdiv (n := n1) (d := d1) hp
    have sg : S ((Int.gcd n1 d1 : Nat) : Int) := hS.le _ _ sd1 (gcd_le (by omega))
    have g0 : 0 < Int.gcd n1 d1 := Int.gcd_pos_of_ne_zero_right _ (by omega)
    have fin : ∀ {H : Hp} {q r : List C}, IsZ q (n1.tdiv (Int.gcd n1 d1 : Nat)) → IsZ r (d1.tdiv (Int.gcd n1 d1 : Nat)) → ∃ e, FzV H (.agg (q ++ r)) e ∧ QRedK n d e := fun h1 h2 =>
      QRedK.fz (p := (n1.tdiv (Int.gcd n1 d1 : Nat), d1.tdiv (Int.gcd n1 d1 : Nat))) (.mk h1 h2) t3 t1 (rel _ _ t2) (by have := tdiv_le n1 (Int.gcd n1 d1 : Nat); simp only; omega) (by have := tdiv_le d1 (Int.gcd n1 d1 : Nat); simp only; omega)
    have hg' := hg
    obtain ⟨c1, c2, c3, rfl⟩ := hg'.three
    refine go2 ?_
    rcases hg.look with ⟨ex, x1, x2⟩ | ⟨lx, nx, ex, xn, xv, xe⟩
    · simp only [List.cons.injEq, and_true] at ex
      obtain ⟨rfl, rfl, rfl⟩ := ex
      refine go2 ?_
      cases hq : compare' Cm.neq ((Int.gcd n1 d1 : Nat) : Int) 1
      case false =>
        simp only [compare', dec_false] at hq
        have e1 : ((Int.gcd n1 d1 : Nat) : Int) = 1 := Decidable.byContradiction hq
        rw [e1, Int.tdiv_one, Int.tdiv_one] at fin
        refine go2 ?_
        exact fin hn1 hd1
      case true =>
        refine go2 ?_
        refine semH_of_semC (hQ _ _ _ _ hn1 hg sn1 sg (by omega)) (fun u hu => ?_)
        obtain ⟨es, fs, rfl, h1, h2⟩ := hu
        obtain ⟨q1, q2, q3, rfl⟩ := h1.three
        obtain ⟨_, _, _, rfl⟩ := h2.three
        refine go2 ?_
        refine semH_of_semC (hQ _ _ _ _ hd1 hg sd1 sg (by omega)) (fun u hu => ?_)
        obtain ⟨es, fs, rfl, h3, h4⟩ := hu
        obtain ⟨r1, r2, r3, rfl⟩ := h3.three
        obtain ⟨_, _, _, rfl⟩ := h4.three
        refine go2 ?_
        exact fin h1 h3
    · simp only [List.cons.injEq, and_true] at ex
      obtain ⟨rfl, rfl, rfl⟩ := ex
      refine go2 ?_
      refine semH_of_semC (hQ _ _ _ _ hn1 hg sn1 sg (by omega)) (fun u hu => ?_)
      obtain ⟨es, fs, rfl, h1, h2⟩ := hu
      obtain ⟨q1, q2, q3, rfl⟩ := h1.three
      obtain ⟨_, _, _, rfl⟩ := h2.three
      refine go2 ?_
      refine semH_of_semC (hQ _ _ _ _ hd1 hg sd1 sg (by omega)) (fun u hu => ?_)
      obtain ⟨es, fs, rfl, h3, h4⟩ := hu
      obtain ⟨r1, r2, r3, rfl⟩ := h3.three
      obtain ⟨_, _, _, rfl⟩ := h4.three
      refine go2 ?_
      exact fin h1 h3

theorem num_Q_IsInt {cs : List C} {p : R2} {k : Nat} (hx : IsQ cs p) (sp : Sz k p.2) (hk : k ≤ 268435456) : semC Try.prog n_num_Q_IsInt [.agg cs] (BoolK (p.2 = 1)) := by
  refine semC_of_awpF ok_num_Q_IsInt rfl (show HFVs [.agg cs] from ⟨hx.hf, trivial⟩) ?_
  obtain ⟨a, b, c, d, e, f, rfl, h1, h2⟩ := hx.six
  refine go2 ?_
  refine call_C (num_I 1 (by omega) (by omega)) (fun u hu => ?_)
  obtain ⟨gs, rfl, h3⟩ := hu
  refine go2 ?_
  refine call_C (num_Z_Cmp (n := k + 1) h2 h3 (sp.up (by omega)) .one (by omega)) (fun u hu => ?_)
  obtain rfl := hu
  refine go2 ?_
  refine BoolK.fz ?_
  simp only [compare', dec_true, sgn_zero_iff]
  omega
theorem num_Int {g : Int} (h1 : -9223372036854775808 ≤ g) (h2 : g < 9223372036854775808) : semC Try.prog n_num_Int [i64 g] (QK (g, 1)) := by
  refine semC_of_awpF ok_num_Int rfl (show HFVs [i64 g] from ⟨trivial, trivial⟩) ?_
  refine go2 ?_
  refine semH_of_semC (num_I g h1 h2) (fun u hu => ?_)
  obtain ⟨es, rfl, h3⟩ := hu
  refine go2 ?_
  refine semH_of_semC (num_I 1 (by omega) (by omega)) (fun u hu => ?_)
  obtain ⟨fs, rfl, h4⟩ := hu
  obtain ⟨a, b, c, rfl⟩ := h3.three
  obtain ⟨d, e, f, rfl⟩ := h4.three
  refine go2 ?_
  exact QK.fz (p := (g, 1)) (.of h3 h4)
theorem num_Q_Floor {S : Int → Prop} {n : Nat} (hS : SCl S n) (hQ : QuoOk S) {cs : List C} {p : R2} (hx : IsQ cs p) (s1 : S p.1) (s2 : S p.2) (h0 : 0 < p.2) : semC Try.prog n_num_Q_Floor [.agg cs] (ZK (p.1 / p.2)) := by
  refine semC_of_awpF ok_num_Q_Floor rfl (show HFVs [.agg cs] from ⟨hx.hf, trivial⟩) ?_
  obtain ⟨a, b, c, d, e, f, rfl, h1, h2⟩ := hx.six
  refine go2 ?_
  refine semH_of_semC (num_Z_Floor hS hQ h1 h2 s1 s2 h0) (fun u hu => ?_)
  obtain ⟨es, rfl, h3⟩ := hu
  obtain ⟨a, b, c, rfl⟩ := h3.three
  refine go2 ?_
  exact ZK.fz h3
theorem num_Q_Ceil {S : Int → Prop} {n : Nat} (hS : SCl S n) (hQ : QuoOk S) {cs : List C} {p : R2} (hx : IsQ cs p) (s1 : S p.1) (s2 : S p.2) (h0 : 0 < p.2) : semC Try.prog n_num_Q_Ceil [.agg cs] (ZK (-(-p.1 / p.2))) := by
  refine semC_of_awpF ok_num_Q_Ceil rfl (show HFVs [.agg cs] from ⟨hx.hf, trivial⟩) ?_
  obtain ⟨a, b, c, d, e, f, rfl, h1, h2⟩ := hx.six
  have hn := hS.n
  refine go2 ?_
  refine call_C (num_Z_Neg h1 (hS.sz _ s1) (by omega)) (fun u hu => ?_)
  obtain ⟨es, rfl, h3⟩ := hu
  have s3 : S (-p.1) := hS.le _ _ s1 (by rw [Int.natAbs_neg]; exact Nat.le_refl _)
  refine go2 ?_
  refine call_C (num_Z_Floor hS hQ h3 h2 s3 s2 h0) (fun u hu => ?_)
  obtain ⟨fs, rfl, h4⟩ := hu
  refine go2 ?_
  refine call_C (num_Z_Neg h4 (hS.sz _ (hS.le _ _ s3 (ediv_le h0))) (by omega)) (fun u hu => ?_)
  obtain ⟨gs, rfl, h5⟩ := hu
  obtain ⟨a, b, c, rfl⟩ := h5.three
  refine go2 ?_
  exact ZK.fz h5

theorem num_Q_Mul {S : Int → Prop} {n k : Nat} (hS : SCl S n) (hQ : QuoOk S) {cs ds : List C} {p q : R2} (hx : IsQ cs p) (hy : IsQ ds q) (bp : Bd k p) (bq : Bd k q) (hk : k ≤ 268435456) (s1 : S (p.1 * q.1)) (s2 : S (p.2 * q.2)) : semC Try.prog n_num_Q_Mul [.agg cs, .agg ds] (QRedK (p.1 * q.1) (p.2 * q.2)) := by
  refine semC_of_awpF ok_num_Q_Mul rfl (show HFVs [.agg cs, .agg ds] from ⟨hx.hf, hy.hf, trivial⟩) ?_
  obtain ⟨a, b, c, d, e, f, rfl, h1, h2⟩ := hx.six
  obtain ⟨a', b', c', d', e', f', rfl, h3, h4⟩ := hy.six
  have hpos : 0 < p.2 * q.2 := Int.mul_pos bp.pos bq.pos
  refine go2 ?_
  refine semH_of_semC (num_Q_IsInt hx bp.d hk) (fun u hu => ?_)
  obtain ⟨z1, rfl, i1⟩ := hu
  cases z1
  case false =>
    refine go2 ?_
    refine call_C (num_Z_Mul h1 h3 bp.n bq.n (by omega)) (fun u hu => ?_)
    obtain ⟨es, rfl, h5⟩ := hu
    refine go2 ?_
    refine call_C (num_Z_Mul h2 h4 bp.d bq.d (by omega)) (fun u hu => ?_)
    obtain ⟨fs, rfl, h6⟩ := hu
    refine go2 ?_
    refine call_C (num_Over hS hQ h5 h6 s1 s2 (by omega)) (fun u hu => ?_)
    obtain ⟨gs, r, rfl, r1, r2, r3, r4, r5, r6⟩ := hu
    obtain ⟨x, y, z, w, v, t, rfl, _⟩ := r1.six
    refine go2 ?_
    exact QRedK.fz r1 r2 r3 r4 r5 r6
  case true =>
    have e1 := i1.1 rfl
    refine go2 ?_
    refine semH_of_semC (num_Q_IsInt hy bq.d hk) (fun u hu => ?_)
    obtain ⟨z2, rfl, i2⟩ := hu
    cases z2
    case false =>
      refine go2 ?_
      refine call_C (num_Z_Mul h1 h3 bp.n bq.n (by omega)) (fun u hu => ?_)
      obtain ⟨es, rfl, h5⟩ := hu
      refine go2 ?_
      refine call_C (num_Z_Mul h2 h4 bp.d bq.d (by omega)) (fun u hu => ?_)
      obtain ⟨fs, rfl, h6⟩ := hu
      refine go2 ?_
      refine call_C (num_Over hS hQ h5 h6 s1 s2 (by omega)) (fun u hu => ?_)
      obtain ⟨gs, r, rfl, r1, r2, r3, r4, r5, r6⟩ := hu
      obtain ⟨x, y, z, w, v, t, rfl, _⟩ := r1.six
      refine go2 ?_
      exact QRedK.fz r1 r2 r3 r4 r5 r6
    case true =>
      have e2 := i2.1 rfl
      refine go2 ?_
      refine call_C (num_Z_Mul h1 h3 bp.n bq.n (by omega)) (fun u hu => ?_)
      obtain ⟨es, rfl, h5⟩ := hu
      obtain ⟨x, y, z, rfl⟩ := h5.three
      refine go2 ?_
      refine QRedK.fz (p := (p.1 * q.1, p.2)) (.of h5 h2) bp.pos ?_ ?_ (Nat.le_refl _) ?_
      · rw [e1]
        simp
      · rw [e1, e2]
        simp
      · rw [e1, e2]
        simp

theorem num_Q_Down {S : Int → Prop} {n k : Nat} (hS : SCl S n) (hQ : QuoOk S) {cs : List C} {p : R2} {g : Int} (hx : IsQ cs p) (bp : Bd k p) (hk : k + 1 ≤ 268435456) (g1 : 1 ≤ g) (g2 : g ≤ 1000000) (s1 : S (p.1 * g)) (s2 : S p.2) (s3 : S g) : semC Try.prog n_num_Q_Down [.agg cs, i64 g] (QRedK (p.1 * g / p.2) g) := by
  refine semC_of_awpF ok_num_Q_Down rfl (show HFVs [.agg cs, i64 g] from ⟨hx.hf, trivial, trivial⟩) ?_
  obtain ⟨a, b, c, d, e, f, rfl, h1, h2⟩ := hx.six
  have bg : Bd (k + 1) (g, 1) := ⟨by unfold Sz; rw [Nat.pow_succ]; have := Nat.pow_pos (n := k) (show 0 < 4294967296 by decide); simp only; omega, Sz.one, by simp⟩
  have bp' : Bd (k + 1) p := ⟨bp.n.up (by omega), bp.d.up (by omega), bp.pos⟩
  refine go2 ?_
  refine call_C (num_Int (g := g) (by omega) (by omega)) (fun u hu => ?_)
  obtain ⟨es, rfl, h3⟩ := hu
  refine go2 ?_
  refine call_C (num_Q_Mul hS hQ hx h3 bp' bg (by omega) s1 (by simpa using s2)) (fun u hu => ?_)
  obtain ⟨gs, r, rfl, r1, r2, r3, r4, r5, r6⟩ := hu
  simp only [Int.mul_one] at r4 r5 r6
  refine go2 ?_
  refine call_C (num_Q_Floor hS hQ r1 (hS.le _ _ s1 r5) (hS.le _ _ s2 r6) r2) (fun u hu => ?_)
  rw [red_floor r2 bp.pos r4] at hu
  obtain ⟨fs, rfl, h4⟩ := hu
  refine go2 ?_
  refine call_C (num_I g (by omega) (by omega)) (fun u hu => ?_)
  obtain ⟨hs, rfl, h5⟩ := hu
  refine go2 ?_
  refine call_C (num_Over hS hQ h4 h5 (hS.le _ _ s1 (ediv_le bp.pos)) s3 (by omega)) (fun u hu => ?_)
  obtain ⟨gs, r, rfl, r1, r2, r3, r4, r5, r6⟩ := hu
  obtain ⟨x, y, z, w, v, t, rfl, _⟩ := r1.six
  refine go2 ?_
  exact QRedK.fz r1 r2 r3 r4 r5 r6
theorem num_Q_Up {S : Int → Prop} {n k : Nat} (hS : SCl S n) (hQ : QuoOk S) {cs : List C} {p : R2} {g : Int} (hx : IsQ cs p) (bp : Bd k p) (hk : k + 1 ≤ 268435456) (g1 : 1 ≤ g) (g2 : g ≤ 1000000) (s1 : S (p.1 * g)) (s2 : S p.2) (s3 : S g) : semC Try.prog n_num_Q_Up [.agg cs, i64 g] (QRedK (-(-(p.1 * g) / p.2)) g) := by
  refine semC_of_awpF ok_num_Q_Up rfl (show HFVs [.agg cs, i64 g] from ⟨hx.hf, trivial, trivial⟩) ?_
  obtain ⟨a, b, c, d, e, f, rfl, h1, h2⟩ := hx.six
  have bg : Bd (k + 1) (g, 1) := ⟨by unfold Sz; rw [Nat.pow_succ]; have := Nat.pow_pos (n := k) (show 0 < 4294967296 by decide); simp only; omega, Sz.one, by simp⟩
  have bp' : Bd (k + 1) p := ⟨bp.n.up (by omega), bp.d.up (by omega), bp.pos⟩
  have s4 : S (-(p.1 * g)) := hS.le _ _ s1 (by rw [Int.natAbs_neg]; exact Nat.le_refl _)
  have s5 : S (-(-(p.1 * g) / p.2)) := hS.le _ _ s4 (by rw [Int.natAbs_neg]; exact ediv_le bp.pos)
  refine go2 ?_
  refine call_C (num_Int (g := g) (by omega) (by omega)) (fun u hu => ?_)
  obtain ⟨es, rfl, h3⟩ := hu
  refine go2 ?_
  refine call_C (num_Q_Mul hS hQ hx h3 bp' bg (by omega) s1 (by simpa using s2)) (fun u hu => ?_)
  obtain ⟨gs, r, rfl, r1, r2, r3, r4, r5, r6⟩ := hu
  simp only [Int.mul_one] at r4 r5 r6
  refine go2 ?_
  refine call_C (num_Q_Ceil hS hQ r1 (hS.le _ _ s1 r5) (hS.le _ _ s2 r6) r2) (fun u hu => ?_)
  rw [red_floor (n := -(p.1 * g)) (d := p.2) r2 bp.pos (by rw [Int.neg_mul, Int.neg_mul, r4])] at hu
  obtain ⟨fs, rfl, h4⟩ := hu
  refine go2 ?_
  refine call_C (num_I g (by omega) (by omega)) (fun u hu => ?_)
  obtain ⟨hs, rfl, h5⟩ := hu
  refine go2 ?_
  refine call_C (num_Over hS hQ h4 h5 s5 s3 (by omega)) (fun u hu => ?_)
  obtain ⟨gs, r, rfl, r1, r2, r3, r4, r5, r6⟩ := hu
  obtain ⟨x, y, z, w, v, t, rfl, _⟩ := r1.six
  refine go2 ?_
  exact QRedK.fz r1 r2 r3 r4 r5 r6
end Go.Proofs.Ytjncgcnofiaiaaa
