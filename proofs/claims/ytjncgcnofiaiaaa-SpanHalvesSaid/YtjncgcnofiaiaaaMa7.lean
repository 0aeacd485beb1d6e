/-
  span.Mul; the law's own example.
-/
import Derived.Test.YtjncgcnofiaiaaaMa4
/-
  num: quotients of small numbers; Gcd, Over, Floor out of a contract of Quo.
-/
set_option linter.unusedVariables false
set_option linter.unusedSimpArgs false
namespace Go.Proofs.Ytjncgcnofiaiaaa
open Go.RowKit
set_option maxRecDepth 20000

def QuoK (a b : Int) (u : V) : Prop := ∃ cs ds, u = .tup [.agg cs, .agg ds] ∧ IsZ cs (a.tdiv b) ∧ IsZ ds (a.tmod b)
theorem QuoK.fz {a b : Int} {cs ds : List C} {H : Hp} (h1 : IsZ cs (a.tdiv b)) (h2 : IsZ ds (a.tmod b)) : ∃ e, FzV H (.tup [.agg cs, .agg ds]) e ∧ QuoK a b e := ⟨_, .tup (.cons (.agg (.hf h1.hf)) (.cons (.agg (.hf h2.hf)) .nil)), _, _, rfl, h1, h2⟩
/-- Numbers of such a kind are divided rightly. -/
def QuoOk (S : Int → Prop) : Prop := ∀ (cs ds : List C) (a b : Int), IsZ cs a → IsZ ds b → S a → S b → b ≠ 0 → semC Try.prog n_num_Z_Quo [.agg cs, .agg ds] (QuoK a b)
/-- A kind of numbers that holds the lesser ones as well. -/
structure SCl (S : Int → Prop) (n : Nat) : Prop where
  le : ∀ a b : Int, S a → b.natAbs ≤ a.natAbs → S b
  sz : ∀ a : Int, S a → Sz n a
  n : n ≤ 268435456
def Sm (z : Int) : Prop := z.natAbs < 9223372036854775808
theorem Sm.cl : SCl Sm 2 := ⟨fun a b h1 h2 => by unfold Sm at *; omega, fun a h => by unfold Sm at h; unfold Sz; omega, by decide⟩
theorem tdiv_le (a b : Int) : (a.tdiv b).natAbs ≤ a.natAbs := by
  rw [Int.natAbs_tdiv]
  exact Nat.div_le_self _ _
theorem tmod_le (a b : Int) : (a.tmod b).natAbs ≤ a.natAbs := by
  rw [Int.natAbs_tmod]
  exact Nat.mod_le _ _
theorem big_not {l : List Nat} {neg : Bool} {z : Int} (h : 9223372036854775808 ≤ val l) (e : z = amt neg (val l)) (hs : Sm z) : False := by
  unfold Sm at hs
  rw [e, amt_abs] at hs
  omega
theorem ar_quo {k : IntKind} {a b : Int} : arith .quo k a b = k.wrap (a.tdiv b) := rfl

theorem snd_live (H : Hp) (s t : Slot) : (H ++ [s] ++ [t])[H.length]? = some s := by simp
theorem set_snd (H : Hp) (s t u : Slot) : (H ++ [s] ++ [t]).set H.length u = H ++ [u] ++ [t] := by simp
theorem last_at {H : Hp} {i : Nat} {s : Slot} (h : i = H.length) : (H ++ [s])[i]? = some s := by
  subst h
  simp
theorem set_at {H : Hp} {i : Nat} {s t : Slot} (h : i = H.length) : (H ++ [s]).set i t = H ++ [t] := by
  subst h
  simp
/-! ### Fractions brought to lowest terms -/
def QRedK (n d : Int) (u : V) : Prop := ∃ cs p, u = .agg cs ∧ IsQ cs p ∧ 0 < p.2 ∧ Int.gcd p.1 p.2 = 1 ∧ p.1 * d = n * p.2 ∧ p.1.natAbs ≤ n.natAbs ∧ p.2.natAbs ≤ d.natAbs
theorem QRedK.fz {n d : Int} {p : R2} {cs : List C} {H : Hp} (h : IsQ cs p) (h1 : 0 < p.2) (h2 : Int.gcd p.1 p.2 = 1) (h3 : p.1 * d = n * p.2) (h4 : p.1.natAbs ≤ n.natAbs) (h5 : p.2.natAbs ≤ d.natAbs) : ∃ e, FzV H (.agg cs) e ∧ QRedK n d e :=
  ⟨_, .agg (.hf h.hf), cs, p, rfl, h, h1, h2, h3, h4, h5⟩
theorem gcd_tdiv {n d : Int} (hd : 0 < d) : Int.gcd (n.tdiv (Int.gcd n d : Nat)) (d.tdiv (Int.gcd n d : Nat)) = 1 ∧ n.tdiv (Int.gcd n d : Nat) * d = n * d.tdiv (Int.gcd n d : Nat) ∧ 0 < d.tdiv (Int.gcd n d : Nat) := by
  have hg : 0 < Int.gcd n d := Int.gcd_pos_of_ne_zero_right _ (by omega)
  obtain ⟨k, hk⟩ := Int.gcd_dvd_left n d
  obtain ⟨m, hm⟩ := Int.gcd_dvd_right n d
  generalize hgg : Int.gcd n d = g at hg hk hm ⊢
  have hg' : (g : Int) ≠ 0 := by omega
  have e1 : n.tdiv (g : Int) = k := by rw [hk, Int.mul_tdiv_cancel_left _ hg']
  have e2 : d.tdiv (g : Int) = m := by rw [hm, Int.mul_tdiv_cancel_left _ hg']
  rw [e1, e2]
  refine ⟨?_, ?_, ?_⟩
  · rw [hk, hm, Int.gcd_mul_left] at hgg
    simp only [Int.natAbs_natCast] at hgg
    exact Nat.eq_of_mul_eq_mul_left hg (by omega)
  · rw [hk, hm]
    grind
  · rcases Int.lt_trichotomy m 0 with h | h | h
    · have : (g : Int) * m < 0 := Int.mul_neg_of_pos_of_neg (by omega) h
      omega
    · subst h
      simp at hm
      omega
    · exact h
theorem floor_eq {a b : Int} (hb : 0 < b) : a / b = if a.tmod b < 0 then a.tdiv b - 1 else a.tdiv b := by
  have e := Int.mul_tdiv_add_tmod a b
  have hlt : (a.tmod b).natAbs < b.natAbs := by
    rw [Int.natAbs_tmod]
    exact Nat.mod_lt _ (by omega)
  have hu := fun (r q : Int) (h1 : r + b * q = a) (h2 : 0 ≤ r) (h3 : r < b) => (Int.ediv_emod_unique hb).2 ⟨h1, h2, h3⟩
  split
  · exact (hu (a.tmod b + b) (a.tdiv b - 1) (by rw [Int.mul_sub]; omega) (by omega) (by omega)).1
  · exact (hu (a.tmod b) (a.tdiv b) (by omega) (by omega) (by omega)).1
attribute [local irreducible] compare' semH semC qLen qNil qIad qSlc qIdx ldBox ldCells stBox appX awpF awpOpsF awpDF xopF xopDF qval lval seqQ blockQ loopQ bodyF retKF cnd arith IntKind.wrap

theorem quoOk_small : QuoOk Sm := by
  intro cs ds a b hx hy sa sb h0
  refine semC_of_awpF ok_num_Z_Quo rfl (show HFVs [.agg cs, .agg ds] from ⟨hx.hf, hy.hf, trivial⟩) ?_
  rcases hx.look with ⟨rfl, x1, x2⟩ | ⟨lx, nx, rfl, xn, xv, xe⟩
  case inr => exact (big_not xv xe sa).elim
  rcases hy.look with ⟨rfl, y1, y2⟩ | ⟨ly, ny, rfl, yn, yv, ye⟩
  case inr => exact (big_not yv ye sb).elim
  unfold Sm at sa sb
  have q1 := tdiv_le a b
  have q2 := tmod_le a b
  refine go2 ?_
  cases hq : compare' Cm.neq a (-9223372036854775808)
  case false =>
    simp [compare'] at hq
    omega
  refine go2 ?_
  refine q_ar (by rfl) (by rfl) (by simp [needs, h0]) ?_
  rw [ar_quo, wrap_i64 (by omega) (by omega)]
  refine go2 ?_
  refine q_ar (by rfl) (by rfl) (by simp [needs, h0]) ?_
  rw [ar_rem]
  refine go2 ?_
  exact QuoK.fz (.small _ (by omega) (by omega)) (.small _ (by omega) (by omega))

theorem num_Z_Floor {S : Int → Prop} {n : Nat} (hS : SCl S n) (hQ : QuoOk S) {cs ds : List C} {a b : Int} (hx : IsZ cs a) (hy : IsZ ds b) (sa : S a) (sb : S b) (h0 : 0 < b) : semC Try.prog n_num_Z_Floor [.agg cs, .agg ds] (ZK (a / b)) := by
  refine semC_of_awpF ok_num_Z_Floor rfl (show HFVs [.agg cs, .agg ds] from ⟨hx.hf, hy.hf, trivial⟩) ?_
  obtain ⟨a1, a2, a3, rfl⟩ := hx.three
  obtain ⟨b1, b2, b3, rfl⟩ := hy.three
  rw [floor_eq h0]
  refine go2 ?_
  refine semH_of_semC (hQ _ _ a b hx hy sa sb (by omega)) (fun u hu => ?_)
  obtain ⟨es, fs, rfl, hq, hr⟩ := hu
  obtain ⟨c1, c2, c3, rfl⟩ := hq.three
  obtain ⟨d1, d2, d3, rfl⟩ := hr.three
  refine go2 ?_
  refine semH_of_semC (num_Z_Sign hr) (fun u hu => ?_)
  obtain rfl := hu
  refine go2 ?_
  cases hc : compare' Cm.lss (sgn (a.tmod b)) 0
  · have h1 : ¬ a.tmod b < 0 := by
      simp only [compare', dec_false] at hc
      unfold sgn at hc
      intro h
      rw [if_pos h] at hc
      omega
    rw [if_neg h1]
    refine go2 ?_
    exact ZK.fz hq
  · have h1 : a.tmod b < 0 := by
      simp only [compare', dec_true] at hc
      unfold sgn at hc
      split at hc
      · assumption
      · split at hc <;> omega
    rw [if_pos h1]
    refine go2 ?_
    simp only [spanC, zeroC, ratC, zeroE, zeroS, List.set_cons_zero, List.set_cons_succ, List.nil_append, List.cons_append, List.append_nil, List.replicate_succ, List.replicate_zero, List.length_cons, List.length_nil, splice, List.take_succ_cons, List.take_zero, List.drop_succ_cons, List.drop_zero, List.take_nil, List.drop_nil, Nat.zero_add, Nat.reduceAdd, Nat.reduceMul, Int.reduceToNat, closeB, List.getElem?_cons_succ, List.getElem?_cons_zero]
    refine call_C (num_I 1 (by omega) (by omega)) (fun u hu => ?_)
    obtain ⟨gs, rfl, h2⟩ := hu
    refine go2 ?_
    have hsz : Sz (n + 1) 1 := by
      unfold Sz
      rw [Nat.pow_succ]
      have := Nat.pow_pos (n := n) (show 0 < 4294967296 by decide)
      omega
    have hsq : Sz (n + 1) (a.tdiv b) := by
      have h3 := hS.sz _ (hS.le a _ sa (tdiv_le a b))
      unfold Sz at *
      rw [Nat.pow_succ]
      omega
    have hn := hS.n
    refine call_C (num_Z_Sub (n := n + 1) hq h2 hsq hsz (by omega)) (fun u hu => ?_)
    obtain ⟨ks, rfl, h4⟩ := hu
    obtain ⟨e1, e2, e3, rfl⟩ := h4.three
    refine go2 ?_
    exact ZK.fz h4

theorem num_Gcd {S : Int → Prop} {n : Nat} (hS : SCl S n) (hQ : QuoOk S) {cs ds : List C} {a b : Int} (hx : IsZ cs a) (hy : IsZ ds b) (sa : S a) (sb : S b) : semC Try.prog n_num_Gcd [.agg cs, .agg ds] (ZK (Int.gcd a b : Nat)) := by
  refine semC_of_awpF ok_num_Gcd rfl (show HFVs [.agg cs, .agg ds] from ⟨hx.hf, hy.hf, trivial⟩) ?_
  obtain ⟨a1, a2, a3, rfl⟩ := hx.three
  obtain ⟨b1, b2, b3, rfl⟩ := hy.three
  have hn := hS.n
  refine go2 ?_
  refine call_C (num_Z_Abs hx (hS.sz _ sa) (by omega)) (fun u hu => ?_)
  obtain ⟨es, rfl, h1⟩ := hu
  refine go2 ?_
  refine call_C (num_Z_Abs hy (hS.sz _ sb) (by omega)) (fun u hu => ?_)
  obtain ⟨fs, rfl, h2⟩ := hu
  obtain ⟨c1, c2, c3, rfl⟩ := h1.three
  obtain ⟨d1, d2, d3, rfl⟩ := h2.three
  refine go2 ?_
  refine f_loop (fun m vs H => ∃ (xs ys : List C) (x y : Int) (junk : Hp), vs = [.c (.ptr 0 0), .c (.ptr 1 0), .c (.ptr 2 0)] ∧ H = .live ⟨xs, T_num_Z, .rw⟩ :: .live ⟨ys, T_num_Z, .rw⟩ :: .live ⟨[.int .i64 0, .nilSl, .bool false], T_num_Z, .rw⟩ :: junk ∧ m = y.natAbs ∧ IsZ xs x ∧ IsZ ys y ∧ 0 ≤ x ∧ 0 ≤ y ∧ S x ∧ S y ∧ Int.gcd x y = Int.gcd a b) (by rfl) ⟨_, _, a.natAbs, b.natAbs, [], rfl, rfl, rfl, h1, h2, by omega, by omega, hS.le _ _ sa (by simp), hS.le _ _ sb (by simp), by simp [Int.gcd]⟩ ?_
  clear h1 h2
  rintro m vs H ⟨xs, ys, x, y, junk, rfl, rfl, rfl, k1, k2, k3, k4, k5, k6, k7⟩
  have k1' := k1
  have k2' := k2
  obtain ⟨c1, c2, c3, rfl⟩ := k1'.three
  obtain ⟨d1, d2, d3, rfl⟩ := k2'.three
  refine go2 ?_
  refine semH_of_semC (num_Z_Sign k2) (fun u hu => ?_)
  obtain rfl := hu
  refine go2 ?_
  cases hq : compare' Cm.neq (sgn y) 0
  case false =>
    have hy0 : y = 0 := by
      simp only [compare', dec_false] at hq
      unfold sgn at hq
      split at hq
      · omega
      · split at hq <;> omega
    subst hy0
    rw [Int.gcd_zero_right] at k7
    refine go2 ?_
    have e : ((Int.gcd a b : Nat) : Int) = x := by omega
    rw [e]
    exact ZK.fz k1
  have hy0 : y ≠ 0 := by
    simp only [compare', dec_true] at hq
    intro h
    rw [h] at hq
    exact hq rfl
  refine go2 ?_
  rcases k1.look with ⟨ex, x1, x2⟩ | ⟨lx, nx, ex, xn, xv, xe⟩
  · simp only [List.cons.injEq, and_true] at ex
    obtain ⟨rfl, rfl, rfl⟩ := ex
    rcases k2.look with ⟨ey, y1, y2⟩ | ⟨ly, ny, ey, yn, yv, ye⟩
    · simp only [List.cons.injEq, and_true] at ey
      obtain ⟨rfl, rfl, rfl⟩ := ey
      refine go2 ?_
      refine f_loop (fun m vs H => ∃ p q : Int, vs = [.c (.ptr 2 0), i64 p, i64 q] ∧ H = .live ⟨[.int .i64 x, .nilSl, .bool false], T_num_Z, .rw⟩ :: .live ⟨[.int .i64 y, .nilSl, .bool false], T_num_Z, .rw⟩ :: .live ⟨[.int .i64 0, .nilSl, .bool false], T_num_Z, .rw⟩ :: junk ∧ m = q.natAbs ∧ 0 ≤ p ∧ 0 ≤ q ∧ p < 9223372036854775808 ∧ q < 9223372036854775808 ∧ Int.gcd p q = Int.gcd a b) (by rfl) ⟨x, y, rfl, rfl, rfl, k3, k4, x2, y2, k7⟩ ?_
      rintro m vs H ⟨p, q, rfl, rfl, rfl, p1, p2, p3, p4, p5⟩
      refine go2 ?_
      cases hq2 : compare' Cm.neq q 0
      case false =>
        simp [compare'] at hq2
        subst hq2
        rw [Int.gcd_zero_right] at p5
        refine go2 ?_
        have e : ((Int.gcd a b : Nat) : Int) = p := by omega
        rw [e]
        exact ZK.fz (.small p (by omega) (by omega))
      simp [compare'] at hq2
      refine go2 ?_
      refine q_ar (by rfl) (by rfl) (by simp [needs, hq2]) ?_
      refine go2 ?_
      rw [ar_rem]
      have hp : 0 ≤ p.tmod q := Int.tmod_nonneg _ p1
      have hl := tmod_less (a := p) hq2
      exact l_n (by rfl) hl ⟨q, p.tmod q, rfl, rfl, rfl, p2, hp, p4, by omega, gcd_round.trans p5⟩
    · simp only [List.cons.injEq, and_true] at ey
      obtain ⟨rfl, rfl, rfl⟩ := ey
      refine go2 ?_
      refine semH_of_semC (hQ _ _ x y k1 k2 k5 k6 hy0) (fun u hu => ?_)
      obtain ⟨es, fs, rfl, hq2, hr⟩ := hu
      obtain ⟨g1, g2, g3, rfl⟩ := hq2.three
      obtain ⟨h1, h2, h3, rfl⟩ := hr.three
      refine go2 ?_
      refine st_box (snd_live _ _ _) (by rfl) (by rfl) (Nat.le_of_ble_eq_true (by rfl)) ?_
      rw [set_snd]
      refine go2 ?_
      refine st_box (last_at (by simp)) (by rfl) (by rfl) (Nat.le_of_ble_eq_true (by rfl)) ?_
      rw [set_at (by simp)]
      refine go2 ?_
      refine ld_boxA (last_at (by simp)) (by rfl) ?_
      refine go2 ?_
      have hp : 0 ≤ x.tmod y := Int.tmod_nonneg _ k3
      exact l_n (by rfl) (tmod_less (a := x) hy0) ⟨_, _, y, x.tmod y, _, rfl, rfl, rfl, k2, hr, k4, hp, k6, hS.le _ _ k5 (tmod_le x y), gcd_round.trans k7⟩
  · simp only [List.cons.injEq, and_true] at ex
    obtain ⟨rfl, rfl, rfl⟩ := ex
    refine go2 ?_
    refine semH_of_semC (hQ _ _ x y k1 k2 k5 k6 hy0) (fun u hu => ?_)
    obtain ⟨es, fs, rfl, hq2, hr⟩ := hu
    obtain ⟨g1, g2, g3, rfl⟩ := hq2.three
    obtain ⟨h1, h2, h3, rfl⟩ := hr.three
    refine go2 ?_
    refine st_box (snd_live _ _ _) (by rfl) (by rfl) (Nat.le_of_ble_eq_true (by rfl)) ?_
    rw [set_snd]
    refine go2 ?_
    refine st_box (last_at (by simp)) (by rfl) (by rfl) (Nat.le_of_ble_eq_true (by rfl)) ?_
    rw [set_at (by simp)]
    refine go2 ?_
    refine ld_boxA (last_at (by simp)) (by rfl) ?_
    refine go2 ?_
    have hp : 0 ≤ x.tmod y := Int.tmod_nonneg _ k3
    exact l_n (by rfl) (tmod_less (a := x) hy0) ⟨_, _, y, x.tmod y, _, rfl, rfl, rfl, k2, hr, k4, hp, k6, hS.le _ _ k5 (tmod_le x y), gcd_round.trans k7⟩
end Go.Proofs.Ytjncgcnofiaiaaa

/-
  num: Over, IsInt, Int, Mul, Floor, Ceil, Down, Up.
-/
set_option linter.unusedVariables false
set_option linter.unusedSimpArgs false
namespace Go.Proofs.Ytjncgcnofiaiaaa
open Go.RowKit
set_option maxRecDepth 20000

theorem sgn_neg_iff (z : Int) : sgn z < 0 ↔ z < 0 := by
  unfold sgn
  split
  · omega
  · split <;> omega
theorem sgn_zero_iff (z : Int) : sgn z = 0 ↔ z = 0 := by
  unfold sgn
  split
  · omega
  · split <;> omega
theorem Sz.up {n m : Nat} {z : Int} (h : Sz n z) (hm : n ≤ m) : Sz m z := Nat.lt_of_lt_of_le h (Nat.pow_le_pow_right (by decide) hm)
theorem Sz.one {n : Nat} : Sz (n + 1) 1 := by
  unfold Sz
  rw [Nat.pow_succ]
  have := Nat.pow_pos (n := n) (show 0 < 4294967296 by decide)
  omega
theorem gcd_le {n d : Int} (hd : d ≠ 0) : ((Int.gcd n d : Nat) : Int).natAbs ≤ d.natAbs := by
  rw [Int.natAbs_natCast]
  exact Nat.le_of_dvd (by omega) (Nat.gcd_dvd_right _ _)
theorem ediv_le {a b : Int} (hb : 0 < b) : (a / b).natAbs ≤ a.natAbs := by
  rw [floor_eq hb]
  have h1 := tdiv_le a b
  split
  · rename_i h
    have e := Int.mul_tdiv_add_tmod a b
    rcases Int.lt_trichotomy a 0 with ha | ha | ha
    · -- a < 0: the quotient is at most 0, and one less is at least a
      rcases Int.lt_or_le (a.tdiv b) 1 with hq | hq
      · have h2 : a.tdiv b * b ≤ a.tdiv b * 1 := Int.mul_le_mul_of_nonpos_left (by omega) (by omega)
        rw [Int.mul_comm b] at e
        omega
      · have h2 : 0 < b * a.tdiv b := Int.mul_pos hb (by omega)
        have h3 := Int.tmod_lt_of_pos a hb
        omega
    · subst ha
      simp at h
    · have := Int.tmod_nonneg b (a := a) (by omega)
      omega
  · exact h1
theorem red_floor {p1 p2 n d : Int} (h2 : 0 < p2) (hd : 0 < d) (h : p1 * d = n * p2) : p1 / p2 = n / d := by
  have e1 := Int.mul_ediv_mul_of_pos_left p1 p2 hd
  have e2 := Int.mul_ediv_mul_of_pos_left n d h2
  rw [← e1, ← e2, h, Int.mul_comm p2 d]
attribute [local irreducible] compare' semH semC qLen qNil qIad qSlc qIdx ldBox ldCells stBox appX awpF awpOpsF awpDF xopF xopDF qval lval seqQ blockQ loopQ bodyF retKF cnd arith IntKind.wrap

set_option maxHeartbeats 1000000 in
theorem num_Over {S : Int → Prop} {k : Nat} (hS : SCl S k) (hQ : QuoOk S) {cs ds : List C} {n d : Int} (hx : IsZ cs n) (hy : IsZ ds d) (sn : S n) (sd : S d) (h0 : d ≠ 0) : semC Try.prog n_num_Over [.agg cs, .agg ds] (QRedK n d) := by
  refine semC_of_awpF ok_num_Over rfl (show HFVs [.agg cs, .agg ds] from ⟨hx.hf, hy.hf, trivial⟩) ?_
  obtain ⟨a1, a2, a3, rfl⟩ := hx.three
  obtain ⟨b1, b2, b3, rfl⟩ := hy.three
  have hk := hS.n
  refine go2 ?_
  refine semH_of_semC (num_Z_Sign hy) (fun u hu => ?_)
  obtain rfl := hu
  refine go2 ?_
  cases hc : compare' Cm.lss (sgn d) 0
  case false =>
    have hp : 0 < d := by
      simp only [compare', dec_false] at hc
      have := (sgn_neg_iff d).2
      omega
    have rel : ∀ a b : Int, a * d = n * b → a * d = n * b := fun _ _ h => h
    have en : n.natAbs = n.natAbs := rfl
    have ed : d.natAbs = d.natAbs := rfl
    have hn1 := hx
    have hd1 := hy
    have sn1 := sn
    have sd1 := sd
    refine go2 ?_
    refine semH_of_semC (num_Gcd hS hQ hn1 hd1 sn1 sd1) (fun u hu => ?_)
    obtain ⟨gs, rfl, hg⟩ := hu
    obtain ⟨t1, t2, t3⟩ := gcd_tdiv (n := n) (d := d) hp
    have sg : S ((Int.gcd n d : Nat) : Int) := hS.le _ _ sd1 (gcd_le (by omega))
    have g0 : 0 < Int.gcd n d := Int.gcd_pos_of_ne_zero_right _ (by omega)
    have fin : ∀ {H : Hp} {q r : List C}, IsZ q (n.tdiv (Int.gcd n d : Nat)) → IsZ r (d.tdiv (Int.gcd n d : Nat)) → ∃ e, FzV H (.agg (q ++ r)) e ∧ QRedK n d e := fun h1 h2 =>
      QRedK.fz (p := (n.tdiv (Int.gcd n d : Nat), d.tdiv (Int.gcd n d : Nat))) (.mk h1 h2) t3 t1 (rel _ _ t2) (by have := tdiv_le n (Int.gcd n d : Nat); simp only; omega) (by have := tdiv_le d (Int.gcd n d : Nat); simp only; omega)
    have hg' := hg
    obtain ⟨c1, c2, c3, rfl⟩ := hg'.three
    refine go2 ?_
    rcases hg.look with ⟨ex, x1, x2⟩ | ⟨lx, nx, ex, xn, xv, xe⟩
    · simp only [List.cons.injEq, and_true] at ex
      obtain ⟨rfl, rfl, rfl⟩ := ex
      refine go2 ?_
      cases hq : compare' Cm.neq ((Int.gcd n d : Nat) : Int) 1
      case false =>
        simp only [compare', dec_false] at hq
        have e1 : ((Int.gcd n d : Nat) : Int) = 1 := Decidable.byContradiction hq
        rw [e1, Int.tdiv_one, Int.tdiv_one] at fin
        refine go2 ?_
        exact fin hn1 hd1
      case true =>
        refine go2 ?_
        refine semH_of_semC (hQ _ _ _ _ hn1 hg sn1 sg (by omega)) (fun u hu => ?_)
        obtain ⟨es, fs, rfl, h1, h2⟩ := hu
        obtain ⟨q1, q2, q3, rfl⟩ := h1.three
        obtain ⟨_, _, _, rfl⟩ := h2.three
        refine go2 ?_
        refine semH_of_semC (hQ _ _ _ _ hd1 hg sd1 sg (by omega)) (fun u hu => ?_)
        obtain ⟨es, fs, rfl, h3, h4⟩ := hu
        obtain ⟨r1, r2, r3, rfl⟩ := h3.three
        obtain ⟨_, _, _, rfl⟩ := h4.three
        refine go2 ?_
        exact fin h1 h3
    · simp only [List.cons.injEq, and_true] at ex
      obtain ⟨rfl, rfl, rfl⟩ := ex
      refine go2 ?_
      refine semH_of_semC (hQ _ _ _ _ hn1 hg sn1 sg (by omega)) (fun u hu => ?_)
      obtain ⟨es, fs, rfl, h1, h2⟩ := hu
      obtain ⟨q1, q2, q3, rfl⟩ := h1.three
      obtain ⟨_, _, _, rfl⟩ := h2.three
      refine go2 ?_
      refine semH_of_semC (hQ _ _ _ _ hd1 hg sd1 sg (by omega)) (fun u hu => ?_)
      obtain ⟨es, fs, rfl, h3, h4⟩ := hu
      obtain ⟨r1, r2, r3, rfl⟩ := h3.three
      obtain ⟨_, _, _, rfl⟩ := h4.three
      refine go2 ?_
      exact fin h1 h3
  case true =>
    have hp : 0 < -d := by
      simp only [compare', dec_true] at hc
      have := (sgn_neg_iff d).1 hc
      omega
    refine go2 ?_
    refine call_C (num_Z_Neg hx (hS.sz _ sn) (by omega)) (fun u hu => ?_)
    obtain ⟨es, rfl, hn1⟩ := hu
    refine go2 ?_
    refine call_C (num_Z_Neg hy (hS.sz _ sd) (by omega)) (fun u hu => ?_)
    obtain ⟨fs, rfl, hd1⟩ := hu
    obtain ⟨a1, a2, a3, rfl⟩ := hn1.three
    obtain ⟨b1, b2, b3, rfl⟩ := hd1.three
    have rel : ∀ a b : Int, a * -d = -n * b → a * d = n * b := fun a b h => by
      rw [Int.mul_neg, Int.neg_mul] at h
      omega
    have en : (-n).natAbs = n.natAbs := Int.natAbs_neg n
    have ed : (-d).natAbs = d.natAbs := Int.natAbs_neg d
    have sn1 : S (-n) := hS.le _ _ sn (by omega)
    have sd1 : S (-d) := hS.le _ _ sd (by omega)
    generalize -n = n1 at hn1 rel en sn1
    generalize -d = d1 at hd1 rel ed hp sd1
    refine go2 ?_
    simp only [spanC, zeroC, ratC, zeroE, zeroS, List.set_cons_zero, List.set_cons_succ, List.nil_append, List.cons_append, List.append_nil, List.replicate_succ, List.replicate_zero, List.length_cons, List.length_nil, splice, List.take_succ_cons, List.take_zero, List.drop_succ_cons, List.drop_zero, List.take_nil, List.drop_nil, Nat.zero_add, Nat.reduceAdd, Nat.reduceMul, Int.reduceToNat, closeB, List.getElem?_cons_succ, List.getElem?_cons_zero]
    refine semH_of_semC (num_Gcd hS hQ hn1 hd1 sn1 sd1) (fun u hu => ?_)
    obtain ⟨gs, rfl, hg⟩ := hu
    obtain ⟨t1, t2, t3⟩ := gcd_tdiv (n := n1) (d := d1) hp
    have sg : S ((Int.gcd n1 d1 : Nat) : Int) := hS.le _ _ sd1 (gcd_le (by omega))
    have g0 : 0 < Int.gcd n1 d1 := Int.gcd_pos_of_ne_zero_right _ (by omega)
    have fin : ∀ {H : Hp} {q r : List C}, IsZ q (n1.tdiv (Int.gcd n1 d1 : Nat)) → IsZ r (d1.tdiv (Int.gcd n1 d1 : Nat)) → ∃ e, FzV H (.agg (q ++ r)) e ∧ QRedK n d e := fun h1 h2 =>
      QRedK.fz (p := (n1.tdiv (Int.gcd n1 d1 : Nat), d1.tdiv (Int.gcd n1 d1 : Nat))) (.mk h1 h2) t3 t1 (rel _ _ t2) (by have := tdiv_le n1 (Int.gcd n1 d1 : Nat); simp only; omega) (by have := tdiv_le d1 (Int.gcd n1 d1 : Nat); simp only; omega)
    have hg' := hg
    obtain ⟨c1, c2, c3, rfl⟩ := hg'.three
    refine go2 ?_
    rcases hg.look with ⟨ex, x1, x2⟩ | ⟨lx, nx, ex, xn, xv, xe⟩
    · simp only [List.cons.injEq, and_true] at ex
      obtain ⟨rfl, rfl, rfl⟩ := ex
      refine go2 ?_
      cases hq : compare' Cm.neq ((Int.gcd n1 d1 : Nat) : Int) 1
      case false =>
        simp only [compare', dec_false] at hq
        have e1 : ((Int.gcd n1 d1 : Nat) : Int) = 1 := Decidable.byContradiction hq
        rw [e1, Int.tdiv_one, Int.tdiv_one] at fin
        refine go2 ?_
        exact fin hn1 hd1
      case true =>
        refine go2 ?_
        refine semH_of_semC (hQ _ _ _ _ hn1 hg sn1 sg (by omega)) (fun u hu => ?_)
        obtain ⟨es, fs, rfl, h1, h2⟩ := hu
        obtain ⟨q1, q2, q3, rfl⟩ := h1.three
        obtain ⟨_, _, _, rfl⟩ := h2.three
        refine go2 ?_
        refine semH_of_semC (hQ _ _ _ _ hd1 hg sd1 sg (by omega)) (fun u hu => ?_)
        obtain ⟨es, fs, rfl, h3, h4⟩ := hu
        obtain ⟨r1, r2, r3, rfl⟩ := h3.three
        obtain ⟨_, _, _, rfl⟩ := h4.three
        refine go2 ?_
        exact fin h1 h3
    · simp only [List.cons.injEq, and_true] at ex
      obtain ⟨rfl, rfl, rfl⟩ := ex
      refine go2 ?_
      refine semH_of_semC (hQ _ _ _ _ hn1 hg sn1 sg (by omega)) (fun u hu => ?_)
      obtain ⟨es, fs, rfl, h1, h2⟩ := hu
      obtain ⟨q1, q2, q3, rfl⟩ := h1.three
      obtain ⟨_, _, _, rfl⟩ := h2.three
      refine go2 ?_
      refine semH_of_semC (hQ _ _ _ _ hd1 hg sd1 sg (by omega)) (fun u hu => ?_)
      obtain ⟨es, fs, rfl, h3, h4⟩ := hu
      obtain ⟨r1, r2, r3, rfl⟩ := h3.three
      obtain ⟨_, _, _, rfl⟩ := h4.three
      refine go2 ?_
      exact fin h1 h3

theorem num_Q_IsInt {cs : List C} {p : R2} {k : Nat} (hx : IsQ cs p) (sp : Sz k p.2) (hk : k ≤ 268435456) : semC Try.prog n_num_Q_IsInt [.agg cs] (BoolK (p.2 = 1)) := by
  refine semC_of_awpF ok_num_Q_IsInt rfl (show HFVs [.agg cs] from ⟨hx.hf, trivial⟩) ?_
  obtain ⟨a, b, c, d, e, f, rfl, h1, h2⟩ := hx.six
  refine go2 ?_
  refine call_C (num_I 1 (by omega) (by omega)) (fun u hu => ?_)
  obtain ⟨gs, rfl, h3⟩ := hu
  refine go2 ?_
  refine call_C (num_Z_Cmp (n := k + 1) h2 h3 (sp.up (by omega)) .one (by omega)) (fun u hu => ?_)
  obtain rfl := hu
  refine go2 ?_
  refine BoolK.fz ?_
  simp only [compare', dec_true, sgn_zero_iff]
  omega
theorem num_Int {g : Int} (h1 : -9223372036854775808 ≤ g) (h2 : g < 9223372036854775808) : semC Try.prog n_num_Int [i64 g] (QK (g, 1)) := by
  refine semC_of_awpF ok_num_Int rfl (show HFVs [i64 g] from ⟨trivial, trivial⟩) ?_
  refine go2 ?_
  refine semH_of_semC (num_I g h1 h2) (fun u hu => ?_)
  obtain ⟨es, rfl, h3⟩ := hu
  refine go2 ?_
  refine semH_of_semC (num_I 1 (by omega) (by omega)) (fun u hu => ?_)
  obtain ⟨fs, rfl, h4⟩ := hu
  obtain ⟨a, b, c, rfl⟩ := h3.three
  obtain ⟨d, e, f, rfl⟩ := h4.three
  refine go2 ?_
  exact QK.fz (p := (g, 1)) (.of h3 h4)
theorem num_Q_Floor {S : Int → Prop} {n : Nat} (hS : SCl S n) (hQ : QuoOk S) {cs : List C} {p : R2} (hx : IsQ cs p) (s1 : S p.1) (s2 : S p.2) (h0 : 0 < p.2) : semC Try.prog n_num_Q_Floor [.agg cs] (ZK (p.1 / p.2)) := by
  refine semC_of_awpF ok_num_Q_Floor rfl (show HFVs [.agg cs] from ⟨hx.hf, trivial⟩) ?_
  obtain ⟨a, b, c, d, e, f, rfl, h1, h2⟩ := hx.six
  refine go2 ?_
  refine semH_of_semC (num_Z_Floor hS hQ h1 h2 s1 s2 h0) (fun u hu => ?_)
  obtain ⟨es, rfl, h3⟩ := hu
  obtain ⟨a, b, c, rfl⟩ := h3.three
  refine go2 ?_
  exact ZK.fz h3
theorem num_Q_Ceil {S : Int → Prop} {n : Nat} (hS : SCl S n) (hQ : QuoOk S) {cs : List C} {p : R2} (hx : IsQ cs p) (s1 : S p.1) (s2 : S p.2) (h0 : 0 < p.2) : semC Try.prog n_num_Q_Ceil [.agg cs] (ZK (-(-p.1 / p.2))) := by
  refine semC_of_awpF ok_num_Q_Ceil rfl (show HFVs [.agg cs] from ⟨hx.hf, trivial⟩) ?_
  obtain ⟨a, b, c, d, e, f, rfl, h1, h2⟩ := hx.six
  have hn := hS.n
  refine go2 ?_
  refine call_C (num_Z_Neg h1 (hS.sz _ s1) (by omega)) (fun u hu => ?_)
  obtain ⟨es, rfl, h3⟩ := hu
  have s3 : S (-p.1) := hS.le _ _ s1 (by rw [Int.natAbs_neg]; exact Nat.le_refl _)
  refine go2 ?_
  refine call_C (num_Z_Floor hS hQ h3 h2 s3 s2 h0) (fun u hu => ?_)
  obtain ⟨fs, rfl, h4⟩ := hu
  refine go2 ?_
  refine call_C (num_Z_Neg h4 (hS.sz _ (hS.le _ _ s3 (ediv_le h0))) (by omega)) (fun u hu => ?_)
  obtain ⟨gs, rfl, h5⟩ := hu
  obtain ⟨a, b, c, rfl⟩ := h5.three
  refine go2 ?_
  exact ZK.fz h5

theorem num_Q_Mul {S : Int → Prop} {n k : Nat} (hS : SCl S n) (hQ : QuoOk S) {cs ds : List C} {p q : R2} (hx : IsQ cs p) (hy : IsQ ds q) (bp : Bd k p) (bq : Bd k q) (hk : k ≤ 268435456) (s1 : S (p.1 * q.1)) (s2 : S (p.2 * q.2)) : semC Try.prog n_num_Q_Mul [.agg cs, .agg ds] (QRedK (p.1 * q.1) (p.2 * q.2)) := by
  refine semC_of_awpF ok_num_Q_Mul rfl (show HFVs [.agg cs, .agg ds] from ⟨hx.hf, hy.hf, trivial⟩) ?_
  obtain ⟨a, b, c, d, e, f, rfl, h1, h2⟩ := hx.six
  obtain ⟨a', b', c', d', e', f', rfl, h3, h4⟩ := hy.six
  have hpos : 0 < p.2 * q.2 := Int.mul_pos bp.pos bq.pos
  refine go2 ?_
  refine semH_of_semC (num_Q_IsInt hx bp.d hk) (fun u hu => ?_)
  obtain ⟨z1, rfl, i1⟩ := hu
  cases z1
  case false =>
    refine go2 ?_
    refine call_C (num_Z_Mul h1 h3 bp.n bq.n (by omega)) (fun u hu => ?_)
    obtain ⟨es, rfl, h5⟩ := hu
    refine go2 ?_
    refine call_C (num_Z_Mul h2 h4 bp.d bq.d (by omega)) (fun u hu => ?_)
    obtain ⟨fs, rfl, h6⟩ := hu
    refine go2 ?_
    refine call_C (num_Over hS hQ h5 h6 s1 s2 (by omega)) (fun u hu => ?_)
    obtain ⟨gs, r, rfl, r1, r2, r3, r4, r5, r6⟩ := hu
    obtain ⟨x, y, z, w, v, t, rfl, _⟩ := r1.six
    refine go2 ?_
    exact QRedK.fz r1 r2 r3 r4 r5 r6
  case true =>
    have e1 := i1.1 rfl
    refine go2 ?_
    refine semH_of_semC (num_Q_IsInt hy bq.d hk) (fun u hu => ?_)
    obtain ⟨z2, rfl, i2⟩ := hu
    cases z2
    case false =>
      refine go2 ?_
      refine call_C (num_Z_Mul h1 h3 bp.n bq.n (by omega)) (fun u hu => ?_)
      obtain ⟨es, rfl, h5⟩ := hu
      refine go2 ?_
      refine call_C (num_Z_Mul h2 h4 bp.d bq.d (by omega)) (fun u hu => ?_)
      obtain ⟨fs, rfl, h6⟩ := hu
      refine go2 ?_
      refine call_C (num_Over hS hQ h5 h6 s1 s2 (by omega)) (fun u hu => ?_)
      obtain ⟨gs, r, rfl, r1, r2, r3, r4, r5, r6⟩ := hu
      obtain ⟨x, y, z, w, v, t, rfl, _⟩ := r1.six
      refine go2 ?_
      exact QRedK.fz r1 r2 r3 r4 r5 r6
    case true =>
      have e2 := i2.1 rfl
      refine go2 ?_
      refine call_C (num_Z_Mul h1 h3 bp.n bq.n (by omega)) (fun u hu => ?_)
      obtain ⟨es, rfl, h5⟩ := hu
      obtain ⟨x, y, z, rfl⟩ := h5.three
      refine go2 ?_
      refine QRedK.fz (p := (p.1 * q.1, p.2)) (.of h5 h2) bp.pos ?_ ?_ (Nat.le_refl _) ?_
      · rw [e1]
        simp
      · rw [e1, e2]
        simp
      · rw [e1, e2]
        simp

theorem num_Q_Down {S : Int → Prop} {n k : Nat} (hS : SCl S n) (hQ : QuoOk S) {cs : List C} {p : R2} {g : Int} (hx : IsQ cs p) (bp : Bd k p) (hk : k + 1 ≤ 268435456) (g1 : 1 ≤ g) (g2 : g ≤ 1000000) (s1 : S (p.1 * g)) (s2 : S p.2) (s3 : S g) : semC Try.prog n_num_Q_Down [.agg cs, i64 g] (QRedK (p.1 * g / p.2) g) := by
  refine semC_of_awpF ok_num_Q_Down rfl (show HFVs [.agg cs, i64 g] from ⟨hx.hf, trivial, trivial⟩) ?_
  obtain ⟨a, b, c, d, e, f, rfl, h1, h2⟩ := hx.six
  have bg : Bd (k + 1) (g, 1) := ⟨by unfold Sz; rw [Nat.pow_succ]; have := Nat.pow_pos (n := k) (show 0 < 4294967296 by decide); simp only; omega, Sz.one, by simp⟩
  have bp' : Bd (k + 1) p := ⟨bp.n.up (by omega), bp.d.up (by omega), bp.pos⟩
  refine go2 ?_
  refine call_C (num_Int (g := g) (by omega) (by omega)) (fun u hu => ?_)
  obtain ⟨es, rfl, h3⟩ := hu
  refine go2 ?_
  refine call_C (num_Q_Mul hS hQ hx h3 bp' bg (by omega) s1 (by simpa using s2)) (fun u hu => ?_)
  obtain ⟨gs, r, rfl, r1, r2, r3, r4, r5, r6⟩ := hu
  simp only [Int.mul_one] at r4 r5 r6
  refine go2 ?_
  refine call_C (num_Q_Floor hS hQ r1 (hS.le _ _ s1 r5) (hS.le _ _ s2 r6) r2) (fun u hu => ?_)
  rw [red_floor r2 bp.pos r4] at hu
  obtain ⟨fs, rfl, h4⟩ := hu
  refine go2 ?_
  refine call_C (num_I g (by omega) (by omega)) (fun u hu => ?_)
  obtain ⟨hs, rfl, h5⟩ := hu
  refine go2 ?_
  refine call_C (num_Over hS hQ h4 h5 (hS.le _ _ s1 (ediv_le bp.pos)) s3 (by omega)) (fun u hu => ?_)
  obtain ⟨gs, r, rfl, r1, r2, r3, r4, r5, r6⟩ := hu
  obtain ⟨x, y, z, w, v, t, rfl, _⟩ := r1.six
  refine go2 ?_
  exact QRedK.fz r1 r2 r3 r4 r5 r6
theorem num_Q_Up {S : Int → Prop} {n k : Nat} (hS : SCl S n) (hQ : QuoOk S) {cs : List C} {p : R2} {g : Int} (hx : IsQ cs p) (bp : Bd k p) (hk : k + 1 ≤ 268435456) (g1 : 1 ≤ g) (g2 : g ≤ 1000000) (s1 : S (p.1 * g)) (s2 : S p.2) (s3 : S g) : semC Try.prog n_num_Q_Up [.agg cs, i64 g] (QRedK (-(-(p.1 * g) / p.2)) g) := by
  refine semC_of_awpF ok_num_Q_Up rfl (show HFVs [.agg cs, i64 g] from ⟨hx.hf, trivial, trivial⟩) ?_
  obtain ⟨a, b, c, d, e, f, rfl, h1, h2⟩ := hx.six
  have bg : Bd (k + 1) (g, 1) := ⟨by unfold Sz; rw [Nat.pow_succ]; have := Nat.pow_pos (n := k) (show 0 < 4294967296 by decide); simp only; omega, Sz.one, by simp⟩
  have bp' : Bd (k + 1) p := ⟨bp.n.up (by omega), bp.d.up (by omega), bp.pos⟩
  have s4 : S (-(p.1 * g)) := hS.le _ _ s1 (by rw [Int.natAbs_neg]; exact Nat.le_refl _)
  have s5 : S (-(-(p.1 * g) / p.2)) := hS.le _ _ s4 (by rw [Int.natAbs_neg]; exact ediv_le bp.pos)
  refine go2 ?_
  refine call_C (num_Int (g := g) (by omega) (by omega)) (fun u hu => ?_)
  obtain ⟨es, rfl, h3⟩ := hu
  refine go2 ?_
  refine call_C (num_Q_Mul hS hQ hx h3 bp' bg (by omega) s1 (by simpa using s2)) (fun u hu => ?_)
  obtain ⟨gs, r, rfl, r1, r2, r3, r4, r5, r6⟩ := hu
  simp only [Int.mul_one] at r4 r5 r6
  refine go2 ?_
  refine call_C (num_Q_Ceil hS hQ r1 (hS.le _ _ s1 r5) (hS.le _ _ s2 r6) r2) (fun u hu => ?_)
  rw [red_floor (n := -(p.1 * g)) (d := p.2) r2 bp.pos (by rw [Int.neg_mul, Int.neg_mul, r4])] at hu
  obtain ⟨fs, rfl, h4⟩ := hu
  refine go2 ?_
  refine call_C (num_I g (by omega) (by omega)) (fun u hu => ?_)
  obtain ⟨hs, rfl, h5⟩ := hu
  refine go2 ?_
  refine call_C (num_Over hS hQ h4 h5 s5 s3 (by omega)) (fun u hu => ?_)
  obtain ⟨gs, r, rfl, r1, r2, r3, r4, r5, r6⟩ := hu
  obtain ⟨x, y, z, w, v, t, rfl, _⟩ := r1.six
  refine go2 ?_
  exact QRedK.fz r1 r2 r3 r4 r5 r6
end Go.Proofs.Ytjncgcnofiaiaaa

/-
  Spans: hull of fractions, products, outward, Mul; the law's own example.
-/
set_option linter.unusedVariables false
set_option linter.unusedSimpArgs false
namespace Go.Proofs.Ytjncgcnofiaiaaa
open Go.RowKit
set_option maxRecDepth 20000

def OkQ (k : Nat) (e : Cv) : Prop := IsQ e.1 e.2 ∧ Bd k e.2
theorem OkQ.len {k : Nat} {e : Cv} (h : OkQ k e) : e.1.length = 6 := by
  obtain ⟨a, b, c, d, e, f, h1, _⟩ := h.1.six
  rw [h1]
  rfl
/-- Reduced from n / d. -/
structure Red (n d : Int) (p : R2) : Prop where
  pos : 0 < p.2
  gcd : Int.gcd p.1 p.2 = 1
  eq : p.1 * d = n * p.2
  n : p.1.natAbs ≤ n.natAbs
  d : p.2.natAbs ≤ d.natAbs
theorem QRedK.red {n d : Int} {u : V} (h : QRedK n d u) : ∃ cs p, u = .agg cs ∧ IsQ cs p ∧ Red n d p := by
  obtain ⟨cs, p, h1, h2, h3, h4, h5, h6, h7⟩ := h
  exact ⟨cs, p, h1, h2, h3, h4, h5, h6, h7⟩
theorem Red.eq_of {n d : Int} {p : R2} (h : Red n d p) (hg : Int.gcd n d = 1) (hd : 0 < d) : p = (n, d) := by
  obtain ⟨e1, e2⟩ := red_uniq h.gcd hg h.pos hd h.eq
  exact Prod.ext e1 e2
theorem Red.bd {n d : Int} {p : R2} {k : Nat} (h : Red n d p) (h1 : Sz k n) (h2 : Sz k d) : Bd k p := ⟨Nat.lt_of_le_of_lt h.n h1, Nat.lt_of_le_of_lt h.d h2, h.pos⟩
attribute [local irreducible] compare' semH semC qLen qNil qIad qSlc qIdx ldBox ldCells stBox appX awpF awpOpsF awpDF xopF xopDF qval lval seqQ blockQ loopQ bodyF retKF cnd arith IntKind.wrap

theorem span_itself {cs : List C} {p : R2} (hx : IsQ cs p) : semC Try.prog n_span_itself [.agg cs] (QK p) := by
  refine semC_of_awpF ok_span_itself rfl (show HFVs [.agg cs] from ⟨hx.hf, trivial⟩) ?_
  obtain ⟨a, b, c, d, e, f, rfl, h1, h2⟩ := hx.six
  refine go2 ?_
  exact QK.fz hx

theorem span_hull_Q {k : Nat} {l : List Cv} (hl : l.length < 1073741824) (h0 : 0 < l.length) (hr : ∀ e ∈ l, OkQ k e) (hk : k ≤ 268435456) : semC Try.prog n_span_hull_num_Q [.c (.imm l.length (l.flatMap (·.1))), .c (.fn n_span_itself [])] (EK (foldV l (l[0].2, l[0].2))) := by
  refine semC_of_awpF ok_span_hull_num_Q rfl (show HFVs [.c (.imm l.length (l.flatMap (·.1))), .c (.fn n_span_itself [])] from ⟨HFL_flat (fun e he => (hr e he).1.hf), trivial, trivial⟩) ?_
  have hr0 := hr _ (getL_mem h0)
  refine go2 ?_
  refine idx_imm (by rfl) (by rfl) (by omega) (by omega) ?_
  refine go2 ?_
  refine ld_elem (i := 0) (fun e he => (hr e he).len) h0 (by omega) ?_
  refine go2 ?_
  refine idx_imm (by rfl) (by rfl) (by omega) (by omega) ?_
  refine go2 ?_
  refine ld_elem (i := 0) (fun e he => (hr e he).len) h0 (by omega) ?_
  refine go2 ?_
  refine call_C (span_itself hr0.1) (fun u hu => ?_)
  obtain ⟨cs, rfl, hp⟩ := hu
  refine go2 ?_
  refine call_C (span_itself hr0.1) (fun u hu => ?_)
  obtain ⟨ds, rfl, hq⟩ := hu
  obtain ⟨a, b, c, d, e, f, rfl, _⟩ := hp.six
  obtain ⟨a', b', c', d', e', f', rfl, _⟩ := hq.six
  refine go2 ?_
  refine f_loop (fun n vs H => ∃ (i : Nat) (es : List C) (junk : Hp), vs = [.c (.fn n_span_itself []), .c (.ptr 0 0), .c (.ptr 1 0), .c (.imm l.length (l.flatMap (·.1))), i64 l.length, i64 i] ∧ H = .live ⟨zeroE, T_span_ends, .rw⟩ :: .live ⟨es, T_span_ends, .rw⟩ :: junk ∧ n = l.length - i ∧ i ≤ l.length ∧ IsE es (foldV (l.take i) (l[0].2, l[0].2))) (by rfl) ⟨0, _, [], rfl, rfl, rfl, by omega, .of hp hq⟩ ?_
  clear hp hq
  rintro n vs H ⟨i, es, junk, rfl, rfl, rfl, h1, h2⟩
  obtain ⟨a, b, c, d, e, f, a', b', c', d', e', f', rfl, q1, q2⟩ := h2.parts
  refine go2 ?_
  cases hq : compare' Cm.lss (i : Int) (l.length : Int)
  · simp [compare'] at hq
    have ei : i = l.length := by omega
    subst ei
    rw [List.take_length] at h2
    refine go2 ?_
    exact EK.fz h2
  · simp [compare'] at hq
    have hri := hr _ (getL_mem hq)
    have hci : l[i].1.length = 6 := hri.len
    have hb : BdS k (foldV (l.take i) (l[0].2, l[0].2)) := foldV_bd ⟨hr0.2, hr0.2⟩ (fun p hp => (hr p (List.mem_of_mem_take hp)).2)
    have hf : foldV (l.take (i + 1)) (l[0].2, l[0].2) = wider (foldV (l.take i) (l[0].2, l[0].2)) l[i].2 := foldl_take hq
    have hget : ∀ {K : V → Prop} {m : Nat}, m = i → K (.agg l[i].1) → ldCells ((l.flatMap (·.1)).drop (m * 6)) true 6 K := fun hm kk => ld_elem (f := (·.1)) (fun e he => (hr e he).len) hq hm kk
    obtain ⟨w1, w2, w3, w4, w5, w6, he, _⟩ := hri.1.six
    have hvi := hri.1
    have hbi := hri.2
    rw [he] at hvi hget
    refine go2 ?_
    refine idx_imm (by rfl) (by rfl) (by omega) (by omega) ?_
    refine go2 ?_
    refine hget (by omega) ?_
    refine go2 ?_
    refine call_C (span_itself hvi) (fun u hu => ?_)
    obtain ⟨fs, rfl, hf1⟩ := hu
    refine go2 ?_
    refine call_C (num_Min q1 hf1 hb.lo hbi hk) (fun u hu => ?_)
    obtain ⟨gs, rfl, hg⟩ := hu
    refine go2 ?_
    refine call_C (span_itself hvi) (fun u hu => ?_)
    obtain ⟨fs2, rfl, hf2⟩ := hu
    refine go2 ?_
    refine call_C (num_Max q2 hf2 hb.hi hbi hk) (fun u hu => ?_)
    obtain ⟨ks, rfl, hk2⟩ := hu
    obtain ⟨a1, b1, c1, d1, e1, f1, rfl, _⟩ := hg.six
    obtain ⟨a2, b2, c2, d2, e2, f2, rfl, _⟩ := hk2.six
    refine go2 ?_
    rw [addI1 i (by omega)]
    refine l_n (by rfl) (by omega) ⟨i + 1, [a1, b1, c1, d1, e1, f1, a2, b2, c2, d2, e2, f2], _, rfl, rfl, rfl, by omega, ?_⟩
    rw [hf]
    exact .of hg hk2

/-- The products of the ends, and the least span that holds them. -/
def ProdK (x y : SP) (u : V) : Prop := ∃ cs r1 r2 r3 r4, u = .agg cs ∧ Red (x.1.1 * y.1.1) (x.1.2 * y.1.2) r1 ∧ Red (x.1.1 * y.2.1) (x.1.2 * y.2.2) r2 ∧ Red (x.2.1 * y.1.1) (x.2.2 * y.1.2) r3 ∧ Red (x.2.1 * y.2.1) (x.2.2 * y.2.2) r4 ∧ IsE cs ([r1, r2, r3, r4].foldl wider (r1, r1))
theorem span_products {S : Int → Prop} {n k : Nat} (hS : SCl S n) (hQ : QuoOk S) {cs ds : List C} {x y : SP} (hx : IsE cs x) (hy : IsE ds y) (bx : BdS k x) (by' : BdS k y) (hk : k + k ≤ 268435456) (hs : ∀ p q : R2, p = x.1 ∨ p = x.2 → q = y.1 ∨ q = y.2 → S (p.1 * q.1) ∧ S (p.2 * q.2)) : semC Try.prog n_span_products [.agg cs, .agg ds] (ProdK x y) := by
  refine semC_of_awpF ok_span_products rfl (show HFVs [.agg cs, .agg ds] from ⟨hx.hf, hy.hf, trivial⟩) ?_
  obtain ⟨a, b, c, d, e, f, a', b', c', d', e', f', rfl, q1, q2⟩ := hx.parts
  obtain ⟨g, h, i, j, o, l, g', h', i', j', o', l', rfl, q3, q4⟩ := hy.parts
  refine go3 ?_
  refine call_C (num_Q_Mul hS hQ q1 q3 bx.lo by'.lo (by omega) (hs _ _ (.inl rfl) (.inl rfl)).1 (hs _ _ (.inl rfl) (.inl rfl)).2) (fun u hu => ?_)
  obtain ⟨es, r1, rfl, i1, red1⟩ := hu.red
  refine go3 ?_
  refine call_C (num_Q_Mul hS hQ q1 q4 bx.lo by'.hi (by omega) (hs _ _ (.inl rfl) (.inr rfl)).1 (hs _ _ (.inl rfl) (.inr rfl)).2) (fun u hu => ?_)
  obtain ⟨es, r2, rfl, i2, red2⟩ := hu.red
  refine go3 ?_
  refine call_C (num_Q_Mul hS hQ q2 q3 bx.hi by'.lo (by omega) (hs _ _ (.inr rfl) (.inl rfl)).1 (hs _ _ (.inr rfl) (.inl rfl)).2) (fun u hu => ?_)
  obtain ⟨es, r3, rfl, i3, red3⟩ := hu.red
  refine go3 ?_
  refine semH_of_semC (num_Q_Mul hS hQ q2 q4 bx.hi by'.hi (by omega) (hs _ _ (.inr rfl) (.inr rfl)).1 (hs _ _ (.inr rfl) (.inr rfl)).2) (fun u hu => ?_)
  obtain ⟨es, r4, rfl, i4, red4⟩ := hu.red
  have i1' := i1
  have i2' := i2
  have i3' := i3
  have i4' := i4
  obtain ⟨p1, p2, p3, p4, p5, p6, rfl, _⟩ := i1'.six
  obtain ⟨u1, u2, u3, u4, u5, u6, rfl, _⟩ := i2'.six
  obtain ⟨v1, v2, v3, v4, v5, v6, rfl, _⟩ := i3'.six
  obtain ⟨w1, w2, w3, w4, w5, w6, rfl, _⟩ := i4'.six
  refine go3 ?_
  simp only [spanC, zeroC, ratC, zeroE, zeroS, List.set_cons_zero, List.set_cons_succ, List.nil_append, List.cons_append, List.append_nil, List.replicate_succ, List.replicate_zero, List.length_cons, List.length_nil, splice, List.take_succ_cons, List.take_zero, List.drop_succ_cons, List.drop_zero, List.take_nil, List.drop_nil, Nat.zero_add, Nat.reduceAdd, Nat.reduceMul, Int.reduceToNat, closeB, List.getElem?_cons_succ, List.getElem?_cons_zero]
  refine semH_of_semC_close [3] (.cons (.c (fz_sl (ds := ([([p1, p2, p3, p4, p5, p6], r1), ([u1, u2, u3, u4, u5, u6], r2), ([v1, v2, v3, v4, v5, v6], r3), ([w1, w2, w3, w4, w5, w6], r4)] : List Cv).flatMap (·.1)) (by rfl) (by rfl) (by simp) (by rfl) ?_)) (.cons (.c (.hf trivial)) .nil)) (span_hull_Q (k := k + k) (l := [([p1, p2, p3, p4, p5, p6], r1), ([u1, u2, u3, u4, u5, u6], r2), ([v1, v2, v3, v4, v5, v6], r3), ([w1, w2, w3, w4, w5, w6], r4)]) (by simp) (by simp) ?_ (by omega)) (fun u hu => ?_)
  · exact HFL_app i1.hf (HFL_app i2.hf (HFL_app i3.hf (HFL_app i4.hf trivial)))
  · intro e he
    simp at he
    rcases he with rfl | rfl | rfl | rfl
    · exact ⟨i1, red1.bd (bx.lo.n.mul by'.lo.n) (bx.lo.d.mul by'.lo.d)⟩
    · exact ⟨i2, red2.bd (bx.lo.n.mul by'.hi.n) (bx.lo.d.mul by'.hi.d)⟩
    · exact ⟨i3, red3.bd (bx.hi.n.mul by'.lo.n) (bx.hi.d.mul by'.lo.d)⟩
    · exact ⟨i4, red4.bd (bx.hi.n.mul by'.hi.n) (bx.hi.d.mul by'.hi.d)⟩
  rw [foldV_map] at hu
  obtain ⟨fs, rfl, hf⟩ := hu
  have hf' := hf
  obtain ⟨a1, a2, a3, a4, a5, a6, b1, b2, b3, b4, b5, b6, rfl, _⟩ := hf'.parts
  simp only [spanC, zeroC, ratC, zeroE, zeroS, List.set_cons_zero, List.set_cons_succ, List.nil_append, List.cons_append, List.append_nil, List.replicate_succ, List.replicate_zero, List.length_cons, List.length_nil, splice, List.take_succ_cons, List.take_zero, List.drop_succ_cons, List.drop_zero, List.take_nil, List.drop_nil, Nat.zero_add, Nat.reduceAdd, Nat.reduceMul, Int.reduceToNat, closeB, List.getElem?_cons_succ, List.getElem?_cons_zero]
  refine go2 ?_
  exact ⟨_, .agg (.hf hf.hf), _, r1, r2, r3, r4, rfl, red1, red2, red3, red4, hf⟩

/-- The ends rounded outward. -/
def OutwK (x : SP) (g : Int) (u : V) : Prop := ∃ lo hi, Red (x.1.1 * g / x.1.2) g lo ∧ Red (-(-(x.2.1 * g) / x.2.2)) g hi ∧ u = toldV (lo, hi)
theorem span_outward {S : Int → Prop} {n k : Nat} (hS : SCl S n) (hQ : QuoOk S) {cs : List C} {x : SP} {g : Int} (hx : IsE cs x) (bx : BdS k x) (hk : k + 1 ≤ 268435456) (g1 : 1 ≤ g) (g2 : g ≤ 1000000) (s1 : S (x.1.1 * g)) (s2 : S (x.2.1 * g)) (s3 : S x.1.2) (s4 : S x.2.2) (s5 : S g) : semC Try.prog n_span_outward [.agg cs, i64 g] (OutwK x g) := by
  refine semC_of_awpF ok_span_outward rfl (show HFVs [.agg cs, i64 g] from ⟨hx.hf, trivial, trivial⟩) ?_
  obtain ⟨a, b, c, d, e, f, a', b', c', d', e', f', rfl, q1, q2⟩ := hx.parts
  refine go2 ?_
  refine call_C (num_Q_Down hS hQ q1 bx.lo hk g1 g2 s1 s3 s5) (fun u hu => ?_)
  obtain ⟨es, lo, rfl, i1, red1⟩ := hu.red
  refine go2 ?_
  refine call_C (num_Q_Up hS hQ q2 bx.hi hk g1 g2 s2 s4 s5) (fun u hu => ?_)
  obtain ⟨fs, hi, rfl, i2, red2⟩ := hu.red
  obtain ⟨a1, a2, a3, a4, a5, a6, rfl, _⟩ := i1.six
  obtain ⟨b1, b2, b3, b4, b5, b6, rfl, _⟩ := i2.six
  refine go2 ?_
  refine call_C (span_told (x := (lo, hi)) (.of i1 i2) red1.pos red2.pos) (fun u hu => ?_)
  obtain rfl := hu
  unfold toldV
  cases hf : fitR lo && fitR hi
  · refine go2 ?_
    exact ⟨_, .tup (.cons (.agg (.hf HFL_zero)) (.cons (.c (.hf trivial)) .nil)), lo, hi, red1, red2, by unfold toldV; rw [hf]; rfl⟩
  · refine go2 ?_
    exact ⟨_, .tup (.cons (.agg (.hf (HFL_span _))) (.cons (.c (.hf trivial)) .nil)), lo, hi, red1, red2, by unfold toldV; rw [hf]; rfl⟩
end Go.Proofs.Ytjncgcnofiaiaaa

/-
  span.Mul; the law's own example.
-/
set_option linter.unusedVariables false
set_option linter.unusedSimpArgs false
namespace Go.Proofs.Ytjncgcnofiaiaaa
open Go.RowKit
set_option maxRecDepth 20000

theorem lessR_dec (p q : R2) : dec (lessR p q) = decide (p.1 * q.2 < q.1 * p.2) := by
  unfold lessR
  exact dec_decide
def kx : SP := ((-1, 1), (2, 1))
def ky : SP := ((3, 1), (4, 1))
theorem rat_one {n : Int} (h1 : -1000000000000 ≤ n) (h2 : n ≤ 1000000000000) : IsRat n 1 := ⟨by omega, by omega, h1, h2, by simp⟩
theorem kx_ok : SpanOk kx := ⟨rat_one (by decide) (by decide), rat_one (by decide) (by decide), by unfold lessR kx; decide⟩
theorem ky_ok : SpanOk ky := ⟨rat_one (by decide) (by decide), rat_one (by decide) (by decide), by unfold lessR ky; decide⟩
theorem k_check : checkV 1 [kx, ky] = i64 0 := by
  unfold checkV
  rw [check_ok]
  unfold okB
  rw [dec_true.2 ⟨kx_ok, ky_ok⟩]
  rfl
theorem k_fold : ([((-3 : Int), (1 : Int)), (-4, 1), (6, 1), (8, 1)] : List R2).foldl wider ((-3, 1), (-3, 1)) = ((-4, 1), (8, 1)) := by
  simp [wider, mnR, mxR, lessR_dec]
theorem red_one {n : Int} {p : R2} (h : Red n 1 p) : p = (n, 1) := h.eq_of (by simp) (by decide)
attribute [local irreducible] compare' semH semC qLen qNil qIad qSlc qIdx ldBox ldCells stBox appX awpF awpOpsF awpDF xopF xopDF qval lval seqQ blockQ loopQ bodyF retKF cnd arith IntKind.wrap

theorem span_Mul_known : semC Try.prog n_span_Mul [.agg (spanC kx), .agg (spanC ky), i64 1] (EqK (.tup [.agg (spanC ((-4, 1), (8, 1))), i64 0])) := by
  refine semC_of_awpF ok_span_Mul rfl (show HFVs [.agg (spanC kx), .agg (spanC ky), i64 1] from ⟨HFL_span _, HFL_span _, trivial, trivial⟩) ?_
  refine go2 ?_
  refine semH_of_semC_close [3] (.cons (.c (.hf trivial)) (.cons (.c (fz_sl (ds := [kx, ky].flatMap spanC) (by rfl) (by rfl) (by simp) (by rfl) (HFL_spans [kx, ky]))) .nil)) (span_check 1 [kx, ky] (by simp)) (fun u hu => ?_)
  obtain rfl := hu
  rw [k_check]
  simp only [spanC, zeroC, ratC, zeroE, zeroS, List.set_cons_zero, List.set_cons_succ, List.nil_append, List.cons_append, List.append_nil, List.replicate_succ, List.replicate_zero, List.length_cons, List.length_nil, splice, List.take_succ_cons, List.take_zero, List.drop_succ_cons, List.drop_zero, List.take_nil, List.drop_nil, Nat.zero_add, Nat.reduceAdd, Nat.reduceMul, Int.reduceToNat, closeB, List.getElem?_cons_succ, List.getElem?_cons_zero]
  refine go2 ?_
  refine c_f (by simp [compare']) ?_
  refine go2 ?_
  refine call_C (span_of (x := kx) kx_ok.1 kx_ok.2.1) (fun u hu => ?_)
  obtain ⟨cs, rfl, h1⟩ := hu
  refine go2 ?_
  refine call_C (span_of (x := ky) ky_ok.1 ky_ok.2.1) (fun u hu => ?_)
  obtain ⟨ds, rfl, h2⟩ := hu
  refine go2 ?_
  refine call_C (span_products (k := 2) Sm.cl quoOk_small h1 h2 kx_ok.bd ky_ok.bd (by decide) ?_) (fun u hu => ?_)
  · intro p q hp hq
    unfold Sm
    rcases hp with rfl | rfl <;> rcases hq with rfl | rfl <;> decide
  obtain ⟨es, r1, r2, r3, r4, rfl, d1, d2, d3, d4, h3⟩ := hu
  have e1 : r1 = (-3, 1) := red_one (n := -3) d1
  have e2 : r2 = (-4, 1) := red_one (n := -4) d2
  have e3 : r3 = (6, 1) := red_one (n := 6) d3
  have e4 : r4 = (8, 1) := red_one (n := 8) d4
  subst e1 e2 e3 e4
  rw [k_fold] at h3
  refine go2 ?_
  refine call_C (span_outward (k := 2) (x := ((-4, 1), (8, 1))) Sm.cl quoOk_small h3 ⟨⟨by unfold Sz; decide, by unfold Sz; decide, by decide⟩, ⟨by unfold Sz; decide, by unfold Sz; decide, by decide⟩⟩ (by decide) (by decide) (by decide) (by unfold Sm; decide) (by unfold Sm; decide) (by unfold Sm; decide) (by unfold Sm; decide) (by unfold Sm; decide)) (fun u hu => ?_)
  obtain ⟨lo, hi, d5, d6, rfl⟩ := hu
  have e5 : lo = (-4, 1) := red_one (n := -4) d5
  have e6 : hi = (8, 1) := red_one (n := 8) d6
  subst e5 e6
  have ht : toldV ((-4, 1), (8, 1)) = .tup [.agg (spanC ((-4, 1), (8, 1))), i64 0] := by
    unfold toldV fitR
    rw [dec_true.2 (by decide), dec_true.2 (by decide)]
    rfl
  rw [ht]
  refine go2 ?_
  exact ⟨_, .tup (.cons (.agg (.hf (HFL_span _))) (.cons (.c (.hf trivial)) .nil)), rfl⟩

theorem law05_known : semC Try.prog n_law05_known [] (EqK (.c (.bool true))) := by
  refine semC_of_awpF ok_law05_known rfl (show HFVs [] from trivial) ?_
  refine go2 ?_
  refine semH_of_semC span_Mul_known (fun u hu => ?_)
  obtain rfl := hu
  refine go2 ?_
  simp only [spanC, zeroC, ratC, zeroE, zeroS, List.set_cons_zero, List.set_cons_succ, List.nil_append, List.cons_append, List.append_nil, List.replicate_succ, List.replicate_zero, List.length_cons, List.length_nil, splice, List.take_succ_cons, List.take_zero, List.drop_succ_cons, List.drop_zero, List.take_nil, List.drop_nil, Nat.zero_add, Nat.reduceAdd, Nat.reduceMul, Int.reduceToNat, closeB, List.getElem?_cons_succ, List.getElem?_cons_zero]
  rw [show compare' Cm.eql 0 0 = true by simp [compare']]
  exact ⟨_, .c (.hf trivial), rfl⟩
end Go.Proofs.Ytjncgcnofiaiaaa
