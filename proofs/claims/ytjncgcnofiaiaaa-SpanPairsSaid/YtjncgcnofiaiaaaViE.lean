/-
  num: quotients of small numbers; Gcd, Over, Floor out of a contract of Quo.
-/
import Derived.Test.YtjncgcnofiaiaaaViB
set_option linter.unusedVariables false
set_option linter.unusedSimpArgs false
namespace Go.Proofs.Ytjncgcnofiaiaaa
open Go.RowKit
set_option maxRecDepth 20000

def QuoK (a b : Int) (u : V) : Prop := ∃ cs ds, u = .tup [.agg cs, .agg ds] ∧ IsZ cs (a.tdiv b) ∧ IsZ ds (a.tmod b)
theorem QuoK.fz {a b : Int} {cs ds : List C} {H : Hp} (h1 : IsZ cs (a.tdiv b)) (h2 : IsZ ds (a.tmod b)) : ∃ e, FzV H (.tup [.agg cs, .agg ds]) e ∧ QuoK a b e := ⟨_, .tup (.cons (.agg (.hf h1.hf)) (.cons (.agg (.hf h2.hf)) .nil)), _, _, rfl, h1, h2⟩
/-- Numbers of such a kind are divided rightly. -/
def QuoOk (S : Int → Prop) : Prop := ∀ (cs ds : List C) (a b : Int), IsZ cs a → IsZ ds b → S a → S b → b ≠ 0 → semC Try.prog n_num_Z_Quo [.agg cs, .agg ds] (QuoK a b)
/-- A kind of numbers that holds the lesser ones as well. -/
structure SCl (S : Int → Prop) (n : Nat) : Prop where
  le : ∀ a b : Int, S a → b.natAbs ≤ a.natAbs → S b
  sz : ∀ a : Int, S a → Sz n a
  n : n ≤ 268435456
def Sm (z : Int) : Prop := z.natAbs < 9223372036854775808
theorem Sm.cl : SCl Sm 2 := ⟨fun a b h1 h2 => by unfold Sm at *; omega, fun a h => by unfold Sm at h; unfold Sz; omega, by decide⟩
theorem tdiv_le (a b : Int) : (a.tdiv b).natAbs ≤ a.natAbs := by
  rw [Int.natAbs_tdiv]
  exact Nat.div_le_self _ _
theorem tmod_le (a b : Int) : (a.tmod b).natAbs ≤ a.natAbs := by
  rw [Int.natAbs_tmod]
  exact Nat.mod_le _ _
theorem big_not {l : List Nat} {neg : Bool} {z : Int} (h : 9223372036854775808 ≤ val l) (e : z = amt neg (val l)) (hs : Sm z) : False := by
  unfold Sm at hs
  rw [e, amt_abs] at hs
  omega
theorem ar_quo {k : IntKind} {a b : Int} : arith .quo k a b = k.wrap (a.tdiv b) := rfl

theorem snd_live (H : Hp) (s t : Slot) : (H ++ [s] ++ [t])[H.length]? = some s := by simp
theorem set_snd (H : Hp) (s t u : Slot) : (H ++ [s] ++ [t]).set H.length u = H ++ [u] ++ [t] := by simp
theorem last_at {H : Hp} {i : Nat} {s : Slot} (h : i = H.length) : (H ++ [s])[i]? = some s := by
  subst h
  simp
theorem set_at {H : Hp} {i : Nat} {s t : Slot} (h : i = H.length) : (H ++ [s]).set i t = H ++ [t] := by
  subst h
  simp
/-! ### Fractions brought to lowest terms -/
def QRedK (n d : Int) (u : V) : Prop := ∃ cs p, u = .agg cs ∧ IsQ cs p ∧ 0 < p.2 ∧ Int.gcd p.1 p.2 = 1 ∧ p.1 * d = n * p.2 ∧ p.1.natAbs ≤ n.natAbs ∧ p.2.natAbs ≤ d.natAbs
theorem QRedK.fz {n d : Int} {p : R2} {cs : List C} {H : Hp} (h : IsQ cs p) (h1 : 0 < p.2) (h2 : Int.gcd p.1 p.2 = 1) (h3 : p.1 * d = n * p.2) (h4 : p.1.natAbs ≤ n.natAbs) (h5 : p.2.natAbs ≤ d.natAbs) : ∃ e, FzV H (.agg cs) e ∧ QRedK n d e :=
  ⟨_, .agg (.hf h.hf), cs, p, rfl, h, h1, h2, h3, h4, h5⟩
theorem gcd_tdiv {n d : Int} (hd : 0 < d) : Int.gcd (n.tdiv (Int.gcd n d : Nat)) (d.tdiv (Int.gcd n d : Nat)) = 1 ∧ n.tdiv (Int.gcd n d : Nat) * d = n * d.tdiv (Int.gcd n d : Nat) ∧ 0 < d.tdiv (Int.gcd n d : Nat) := by
  have hg : 0 < Int.gcd n d := Int.gcd_pos_of_ne_zero_right _ (by omega)
  obtain ⟨k, hk⟩ := Int.gcd_dvd_left n d
  obtain ⟨m, hm⟩ := Int.gcd_dvd_right n d
  generalize hgg : Int.gcd n d = g at hg hk hm ⊢
  have hg' : (g : Int) ≠ 0 := by omega
  have e1 : n.tdiv (g : Int) = k := by rw [hk, Int.mul_tdiv_cancel_left _ hg']
  have e2 : d.tdiv (g : Int) = m := by rw [hm, Int.mul_tdiv_cancel_left _ hg']
  rw [e1, e2]
  refine ⟨?_, ?_, ?_⟩
  · rw [hk, hm, Int.gcd_mul_left] at hgg
    simp only [Int.natAbs_natCast] at hgg
    exact Nat.eq_of_mul_eq_mul_left hg (by omega)
  · rw [hk, hm]
    grind
  · rcases Int.lt_trichotomy m 0 with h | h | h
    · have : (g : Int) * m < 0 := Int.mul_neg_of_pos_of_neg (by omega) h
      omega
    · subst h
      simp at hm
      omega
    · exact h
theorem floor_eq {a b : Int} (hb : 0 < b) : a / b = if a.tmod b < 0 then a.tdiv b - 1 else a.tdiv b := by
  have e := Int.mul_tdiv_add_tmod a b
  have hlt : (a.tmod b).natAbs < b.natAbs := by
    rw [Int.natAbs_tmod]
    exact Nat.mod_lt _ (by omega)
  have hu := fun (r q : Int) (h1 : r + b * q = a) (h2 : 0 ≤ r) (h3 : r < b) => (Int.ediv_emod_unique hb).2 ⟨h1, h2, h3⟩
  split
  · exact (hu (a.tmod b + b) (a.tdiv b - 1) (by rw [Int.mul_sub]; omega) (by omega) (by omega)).1
  · exact (hu (a.tmod b) (a.tdiv b) (by omega) (by omega) (by omega)).1
attribute [local irreducible] compare' semH semC qLen qNil qIad qSlc qIdx ldBox ldCells stBox appX awpF awpOpsF awpDF xopF xopDF qval lval seqQ blockQ loopQ bodyF retKF cnd arith IntKind.wrap

theorem quoOk_small : QuoOk Sm := by
  intro cs ds a b hx hy sa sb h0
  refine semC_of_awpF ok_num_Z_Quo rfl (show HFVs [.agg cs, .agg ds] from ⟨hx.hf, hy.hf, trivial⟩) ?_
  rcases hx.look with ⟨rfl, x1, x2⟩ | ⟨lx, nx, rfl, xn, xv, xe⟩
  case inr => exact (big_not xv xe sa).elim
  rcases hy.look with ⟨rfl, y1, y2⟩ | ⟨ly, ny, rfl, yn, yv, ye⟩
  case inr => exact (big_not yv ye sb).elim
  unfold Sm at sa sb
  have q1 := tdiv_le a b
  have q2 := tmod_le a b
  refine go2 ?_
  cases hq : compare' Cm.neq a (-9223372036854775808)
  case false =>
    simp [compare'] at hq
    omega
  refine go2 ?_
  refine q_ar (by rfl) (by rfl) (by simp [needs, h0]) ?_
  rw [ar_quo, wrap_i64 (by omega) (by omega)]
  refine go2 ?_
  refine q_ar (by rfl) (by rfl) (by simp [needs, h0]) ?_
  rw [ar_rem]
  refine go2 ?_
  exact QuoK.fz (.small _ (by omega) (by omega)) (.small _ (by omega) (by omega))

theorem num_Z_Floor {S : Int → Prop} {n : Nat} (hS : SCl S n) (hQ : QuoOk S) {cs ds : List C} {a b : Int} (hx : IsZ cs a) (hy : IsZ ds b) (sa : S a) (sb : S b) (h0 : 0 < b) : semC Try.prog n_num_Z_Floor [.agg cs, .agg ds] (ZK (a / b)) := by
  refine semC_of_awpF ok_num_Z_Floor rfl (show HFVs [.agg cs, .agg ds] from ⟨hx.hf, hy.hf, trivial⟩) ?_
  obtain ⟨a1, a2, a3, rfl⟩ := hx.three
  obtain ⟨b1, b2, b3, rfl⟩ := hy.three
  rw [floor_eq h0]
  refine go2 ?_
  refine semH_of_semC (hQ _ _ a b hx hy sa sb (by omega)) (fun u hu => ?_)
  obtain ⟨es, fs, rfl, hq, hr⟩ := hu
  obtain ⟨c1, c2, c3, rfl⟩ := hq.three
  obtain ⟨d1, d2, d3, rfl⟩ := hr.three
  refine go2 ?_
  refine semH_of_semC (num_Z_Sign hr) (fun u hu => ?_)
  obtain rfl := hu
  refine go2 ?_
  cases hc : compare' Cm.lss (sgn (a.tmod b)) 0
  · have h1 : ¬ a.tmod b < 0 := by
      simp only [compare', dec_false] at hc
      unfold sgn at hc
      intro h
      rw [if_pos h] at hc
      omega
    rw [if_neg h1]
    refine go2 ?_
    exact ZK.fz hq
  · have h1 : a.tmod b < 0 := by
      simp only [compare', dec_true] at hc
      unfold sgn at hc
      split at hc
      · assumption
      · split at hc <;> omega
    rw [if_pos h1]
    refine go2 ?_
    simp only [spanC, zeroC, ratC, zeroE, zeroS, List.set_cons_zero, List.set_cons_succ, List.nil_append, List.cons_append, List.append_nil, List.replicate_succ, List.replicate_zero, List.length_cons, List.length_nil, splice, List.take_succ_cons, List.take_zero, List.drop_succ_cons, List.drop_zero, List.take_nil, List.drop_nil, Nat.zero_add, Nat.reduceAdd, Nat.reduceMul, Int.reduceToNat, closeB, List.getElem?_cons_succ, List.getElem?_cons_zero]
    refine call_C (num_I 1 (by omega) (by omega)) (fun u hu => ?_)
    obtain ⟨gs, rfl, h2⟩ := hu
    refine go2 ?_
    have hsz : Sz (n + 1) 1 := by
      unfold Sz
      rw [Nat.pow_succ]
      have := Nat.pow_pos (n := n) (show 0 < 4294967296 by decide)
      omega
    have hsq : Sz (n + 1) (a.tdiv b) := by
      have h3 := hS.sz _ (hS.le a _ sa (tdiv_le a b))
      unfold Sz at *
      rw [Nat.pow_succ]
      omega
    have hn := hS.n
    refine call_C (num_Z_Sub (n := n + 1) hq h2 hsq hsz (by omega)) (fun u hu => ?_)
    obtain ⟨ks, rfl, h4⟩ := hu
    obtain ⟨e1, e2, e3, rfl⟩ := h4.three
    refine go2 ?_
    exact ZK.fz h4

theorem num_Gcd {S : Int → Prop} {n : Nat} (hS : SCl S n) (hQ : QuoOk S) {cs ds : List C} {a b : Int} (hx : IsZ cs a) (hy : IsZ ds b) (sa : S a) (sb : S b) : semC Try.prog n_num_Gcd [.agg cs, .agg ds] (ZK (Int.gcd a b : Nat)) := by
  refine semC_of_awpF ok_num_Gcd rfl (show HFVs [.agg cs, .agg ds] from ⟨hx.hf, hy.hf, trivial⟩) ?_
  obtain ⟨a1, a2, a3, rfl⟩ := hx.three
  obtain ⟨b1, b2, b3, rfl⟩ := hy.three
  have hn := hS.n
  refine go2 ?_
  refine call_C (num_Z_Abs hx (hS.sz _ sa) (by omega)) (fun u hu => ?_)
  obtain ⟨es, rfl, h1⟩ := hu
  refine go2 ?_
  refine call_C (num_Z_Abs hy (hS.sz _ sb) (by omega)) (fun u hu => ?_)
  obtain ⟨fs, rfl, h2⟩ := hu
  obtain ⟨c1, c2, c3, rfl⟩ := h1.three
  obtain ⟨d1, d2, d3, rfl⟩ := h2.three
  refine go2 ?_
  refine f_loop (fun m vs H => ∃ (xs ys : List C) (x y : Int) (junk : Hp), vs = [.c (.ptr 0 0), .c (.ptr 1 0), .c (.ptr 2 0)] ∧ H = .live ⟨xs, T_num_Z, .rw⟩ :: .live ⟨ys, T_num_Z, .rw⟩ :: .live ⟨[.int .i64 0, .nilSl, .bool false], T_num_Z, .rw⟩ :: junk ∧ m = y.natAbs ∧ IsZ xs x ∧ IsZ ys y ∧ 0 ≤ x ∧ 0 ≤ y ∧ S x ∧ S y ∧ Int.gcd x y = Int.gcd a b) (by rfl) ⟨_, _, a.natAbs, b.natAbs, [], rfl, rfl, rfl, h1, h2, by omega, by omega, hS.le _ _ sa (by simp), hS.le _ _ sb (by simp), by simp [Int.gcd]⟩ ?_
  clear h1 h2
  rintro m vs H ⟨xs, ys, x, y, junk, rfl, rfl, rfl, k1, k2, k3, k4, k5, k6, k7⟩
  have k1' := k1
  have k2' := k2
  obtain ⟨c1, c2, c3, rfl⟩ := k1'.three
  obtain ⟨d1, d2, d3, rfl⟩ := k2'.three
  refine go2 ?_
  refine semH_of_semC (num_Z_Sign k2) (fun u hu => ?_)
  obtain rfl := hu
  refine go2 ?_
  cases hq : compare' Cm.neq (sgn y) 0
  case false =>
    have hy0 : y = 0 := by
      simp only [compare', dec_false] at hq
      unfold sgn at hq
      split at hq
      · omega
      · split at hq <;> omega
    subst hy0
    rw [Int.gcd_zero_right] at k7
    refine go2 ?_
    have e : ((Int.gcd a b : Nat) : Int) = x := by omega
    rw [e]
    exact ZK.fz k1
  have hy0 : y ≠ 0 := by
    simp only [compare', dec_true] at hq
    intro h
    rw [h] at hq
    exact hq rfl
  refine go2 ?_
  rcases k1.look with ⟨ex, x1, x2⟩ | ⟨lx, nx, ex, xn, xv, xe⟩
  · simp only [List.cons.injEq, and_true] at ex
    obtain ⟨rfl, rfl, rfl⟩ := ex
    rcases k2.look with ⟨ey, y1, y2⟩ | ⟨ly, ny, ey, yn, yv, ye⟩
    · simp only [List.cons.injEq, and_true] at ey
      obtain ⟨rfl, rfl, rfl⟩ := ey
      refine go2 ?_
      refine f_loop (fun m vs H => ∃ p q : Int, vs = [.c (.ptr 2 0), i64 p, i64 q] ∧ H = .live ⟨[.int .i64 x, .nilSl, .bool false], T_num_Z, .rw⟩ :: .live ⟨[.int .i64 y, .nilSl, .bool false], T_num_Z, .rw⟩ :: .live ⟨[.int .i64 0, .nilSl, .bool false], T_num_Z, .rw⟩ :: junk ∧ m = q.natAbs ∧ 0 ≤ p ∧ 0 ≤ q ∧ p < 9223372036854775808 ∧ q < 9223372036854775808 ∧ Int.gcd p q = Int.gcd a b) (by rfl) ⟨x, y, rfl, rfl, rfl, k3, k4, x2, y2, k7⟩ ?_
      rintro m vs H ⟨p, q, rfl, rfl, rfl, p1, p2, p3, p4, p5⟩
      refine go2 ?_
      cases hq2 : compare' Cm.neq q 0
      case false =>
        simp [compare'] at hq2
        subst hq2
        rw [Int.gcd_zero_right] at p5
        refine go2 ?_
        have e : ((Int.gcd a b : Nat) : Int) = p := by omega
        rw [e]
        exact ZK.fz (.small p (by omega) (by omega))
      simp [compare'] at hq2
      refine go2 ?_
      refine q_ar (by rfl) (by rfl) (by simp [needs, hq2]) ?_
      refine go2 ?_
      rw [ar_rem]
      have hp : 0 ≤ p.tmod q := Int.tmod_nonneg _ p1
      have hl := tmod_less (a := p) hq2
      exact l_n (by rfl) hl ⟨q, p.tmod q, rfl, rfl, rfl, p2, hp, p4, by omega, gcd_round.trans p5⟩
    · simp only [List.cons.injEq, and_true] at ey
      obtain ⟨rfl, rfl, rfl⟩ := ey
      refine go2 ?_
      refine semH_of_semC (hQ _ _ x y k1 k2 k5 k6 hy0) (fun u hu => ?_)
      obtain ⟨es, fs, rfl, hq2, hr⟩ := hu
      obtain ⟨g1, g2, g3, rfl⟩ := hq2.three
      obtain ⟨h1, h2, h3, rfl⟩ := hr.three
      refine go2 ?_
      refine st_box (snd_live _ _ _) (by rfl) (by rfl) (Nat.le_of_ble_eq_true (by rfl)) ?_
      rw [set_snd]
      refine go2 ?_
      refine st_box (last_at (by simp)) (by rfl) (by rfl) (Nat.le_of_ble_eq_true (by rfl)) ?_
      rw [set_at (by simp)]
      refine go2 ?_
      refine ld_boxA (last_at (by simp)) (by rfl) ?_
      refine go2 ?_
      have hp : 0 ≤ x.tmod y := Int.tmod_nonneg _ k3
      exact l_n (by rfl) (tmod_less (a := x) hy0) ⟨_, _, y, x.tmod y, _, rfl, rfl, rfl, k2, hr, k4, hp, k6, hS.le _ _ k5 (tmod_le x y), gcd_round.trans k7⟩
  · simp only [List.cons.injEq, and_true] at ex
    obtain ⟨rfl, rfl, rfl⟩ := ex
    refine go2 ?_
    refine semH_of_semC (hQ _ _ x y k1 k2 k5 k6 hy0) (fun u hu => ?_)
    obtain ⟨es, fs, rfl, hq2, hr⟩ := hu
    obtain ⟨g1, g2, g3, rfl⟩ := hq2.three
    obtain ⟨h1, h2, h3, rfl⟩ := hr.three
    refine go2 ?_
    refine st_box (snd_live _ _ _) (by rfl) (by rfl) (Nat.le_of_ble_eq_true (by rfl)) ?_
    rw [set_snd]
    refine go2 ?_
    refine st_box (last_at (by simp)) (by rfl) (by rfl) (Nat.le_of_ble_eq_true (by rfl)) ?_
    rw [set_at (by simp)]
    refine go2 ?_
    refine ld_boxA (last_at (by simp)) (by rfl) ?_
    refine go2 ?_
    have hp : 0 ≤ x.tmod y := Int.tmod_nonneg _ k3
    exact l_n (by rfl) (tmod_less (a := x) hy0) ⟨_, _, y, x.tmod y, _, rfl, rfl, rfl, k2, hr, k4, hp, k6, hS.le _ _ k5 (tmod_le x y), gcd_round.trans k7⟩
end Go.Proofs.Ytjncgcnofiaiaaa
