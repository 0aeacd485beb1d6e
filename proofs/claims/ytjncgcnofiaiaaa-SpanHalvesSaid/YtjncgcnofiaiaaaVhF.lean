/-
  num.Z: sums, signs, comparing.
-/
import Derived.Test.YtjncgcnofiaiaaaVhE
import Derived.Test.YtjncgcnofiaiaaaAc1
import Derived.Test.YtjncgcnofiaiaaaAc0
set_option linter.unusedVariables false
set_option linter.unusedSimpArgs false
namespace Go.Proofs.Ytjncgcnofiaiaaa
open Go.RowKit
set_option maxRecDepth 20000
attribute [local irreducible] compare' semH semC qLen qNil qIad qSlc qIdx ldBox ldCells stBox appX awpF awpOpsF awpDF xopF xopDF qval lval seqQ blockQ loopQ bodyF retKF cnd arith IntKind.wrap

/-- At most n words. -/
def Sz (n : Nat) (z : Int) : Prop := z.natAbs < 4294967296 ^ n
theorem amt_abs (neg : Bool) (n : Nat) : (amt neg n).natAbs = n := by cases neg <;> simp [amt]
theorem IsZ.three {cs : List C} {z : Int} (h : IsZ cs z) : ∃ a b c, cs = [a, b, c] := by cases h <;> exact ⟨_, _, _, rfl⟩
theorem IsZ.look {cs : List C} {z : Int} (h : IsZ cs z) : (cs = [.int .i64 z, .nilSl, .bool false] ∧ -9223372036854775808 ≤ z ∧ z < 9223372036854775808) ∨ (∃ l neg, cs = [.int .i64 0, .imm l.length (l.map W), .bool neg] ∧ Norm l ∧ 9223372036854775808 ≤ val l ∧ z = amt neg (val l)) := by
  cases h with
  | small v h1 h2 => exact .inl ⟨rfl, h1, h2⟩
  | big l neg hn hv => exact .inr ⟨l, neg, rfl, hn, hv, rfl⟩
theorem norm_ge {l : List Nat} (h : Norm l) (h0 : 0 < l.length) : 4294967296 ^ (l.length - 1) ≤ val l := by
  rw [val_split l (l.length - 1), drop_cons (by omega)]
  have h1 := h.2 (fun e => by simp [e] at h0)
  have e1 : (l.take (l.length - 1)).length = l.length - 1 := by simp
  rw [e1]
  simp only [val]
  have h4 : 4294967296 ^ (l.length - 1) * 1 ≤ 4294967296 ^ (l.length - 1) * (at0 l (l.length - 1) + 4294967296 * val (l.drop (l.length - 1 + 1))) := Nat.mul_le_mul_left _ (by omega)
  omega
theorem norm_len {l : List Nat} {n : Nat} (h : Norm l) (hv : val l < 4294967296 ^ n) : l.length ≤ n := by
  rcases Nat.eq_zero_or_pos l.length with h0 | h0
  · omega
  · have h1 := norm_ge h h0
    have h2 : 4294967296 ^ (l.length - 1) < 4294967296 ^ n := Nat.lt_of_le_of_lt h1 hv
    have h3 : l.length - 1 < n := (Nat.pow_lt_pow_iff_right (by decide)).1 h2
    omega
/-- More words, more worth. -/
theorem norm_lt {a b : List Nat} (ha : Norm a) (hb : Norm b) (h : a.length < b.length) : val a < val b := by
  have h1 := val_lt ha.1
  have h2 := norm_ge hb (by omega)
  have h3 : 4294967296 ^ a.length ≤ 4294967296 ^ (b.length - 1) := Nat.pow_le_pow_right (by decide) (by omega)
  omega
theorem cmp_neg {a b : List Nat} {r : Int} (ha : Norm a) (hb : Norm b) (r1 : a.length < b.length → r = -1) (r2 : b.length < a.length → r = 1) (r3 : a.length = b.length → r = sgn (val a - val b)) (h : r < 0) : val a < val b ∧ a.length ≤ b.length := by
  rcases Nat.lt_trichotomy a.length b.length with h1 | h1 | h1
  · exact ⟨norm_lt ha hb h1, by omega⟩
  · have := r3 h1
    unfold sgn at this
    split at this
    · exact ⟨by omega, by omega⟩
    · split at this <;> omega
  · have := r2 h1
    omega
theorem cmp_nonneg {a b : List Nat} {r : Int} (ha : Norm a) (hb : Norm b) (r1 : a.length < b.length → r = -1) (r2 : b.length < a.length → r = 1) (r3 : a.length = b.length → r = sgn (val a - val b)) (h : 0 ≤ r) : val b ≤ val a ∧ b.length ≤ a.length := by
  rcases Nat.lt_trichotomy a.length b.length with h1 | h1 | h1
  · have := r1 h1
    omega
  · have := r3 h1
    unfold sgn at this
    split at this
    · omega
    · exact ⟨by omega, by omega⟩
  · have := norm_lt hb ha h1
    exact ⟨by omega, by omega⟩

theorem add_fits {x y : Int} (x1 : -9223372036854775808 ≤ x) (x2 : x < 9223372036854775808) (y1 : -9223372036854775808 ≤ y) (y2 : y < 9223372036854775808) (h : dec (arith .add .i64 x y > x) = dec (y > 0)) : arith .add .i64 x y = x + y ∧ -9223372036854775808 ≤ x + y ∧ x + y < 9223372036854775808 := by
  have e : arith .add .i64 x y = if (x + y) % 18446744073709551616 ≥ 9223372036854775808 then (x + y) % 18446744073709551616 - 18446744073709551616 else (x + y) % 18446744073709551616 := by
    rw [ar_add, wrap_i64']
  have h' : (arith .add .i64 x y > x) ↔ (y > 0) := by
    rw [← dec_true (p := arith .add .i64 x y > x), h, dec_true]
  rw [e] at h' ⊢
  split at h' <;> omega
theorem num_Z_Add {cs ds : List C} {x y : Int} {n : Nat} (hx : IsZ cs x) (hy : IsZ ds y) (sx : Sz n x) (sy : Sz n y) (hn : n ≤ 1073741824) : semC Try.prog n_num_Z_Add [.agg cs, .agg ds] (ZK (x + y)) := by
  refine semC_of_awpF ok_num_Z_Add rfl (show HFVs [.agg cs, .agg ds] from ⟨hx.hf, hy.hf, trivial⟩) ?_
  unfold Sz at sx sy
  rcases hx.look with ⟨rfl, x1, x2⟩ | ⟨lx, nx, rfl, xn, xv, xe⟩
  · rcases hy.look with ⟨rfl, y1, y2⟩ | ⟨ly, ny, rfl, yn, yv, ye⟩
    · refine go ?_
      cases hq : (compare' Cm.gtr (arith .add .i64 x y) x == compare' Cm.gtr y 0)
      · refine go ?_
        refine semH_of_semC (num_Z_words hx) (fun u hu => ?_)
        obtain ⟨c1, l1, n1, rfl, w1, o1, e1⟩ := hu
        refine go ?_
        refine semH_of_semC (num_Z_words hy) (fun u hu => ?_)
        obtain ⟨c2, l2, n2, rfl, w2, o2, e2⟩ := hu
        refine go ?_
        have hl1 : l1.length ≤ n := norm_len o1 (by rw [e1] at sx; rwa [amt_abs] at sx)
        have hl2 : l2.length ≤ n := norm_len o2 (by rw [e2] at sy; rwa [amt_abs] at sy)
        cases n1 <;> cases n2
        · refine go ?_
          refine semH_of_semC (num_addWords w1 w2 o1.1 o2.1 (by omega) (by omega)) (fun u hu => ?_)
          obtain ⟨c3, l3, rfl, w3, o3, v3, len3⟩ := hu
          refine go ?_
          refine semH_of_semC (num_made false w3 o3 (by omega)) (fun u hu => ?_)
          obtain ⟨cs3, rfl, z3⟩ := hu
          obtain ⟨a0, a1, a2, rfl⟩ := z3.three
          refine go ?_
          have ez : x + y = amt false (val l3) := by rw [e1, e2, v3]; simp [amt]; try omega
          rw [ez]
          exact ZK.fz z3
        · refine go ?_
          refine semH_of_semC (num_cmpWords w1 w2 o1.1 o2.1 (by omega)) (fun u hu => ?_)
          obtain ⟨r, rfl, r1, r2, r3⟩ := hu
          refine go ?_
          cases hq : compare' Cm.geq r 0
          · simp [compare'] at hq
            refine go ?_
            obtain ⟨q1, q2⟩ := cmp_neg o1 o2 r1 r2 r3 hq
            refine semH_of_semC (num_subWords w2 w1 o2.1 o1.1 (by omega) (by omega) (by omega)) (fun u hu => ?_)
            obtain ⟨c3, l3, rfl, w3, o3, v3, len3⟩ := hu
            refine go ?_
            refine semH_of_semC (num_made true w3 o3 (by omega)) (fun u hu => ?_)
            obtain ⟨cs3, rfl, z3⟩ := hu
            obtain ⟨a0, a1, a2, rfl⟩ := z3.three
            refine go ?_
            have ez : x + y = amt true (val l3) := by rw [e1, e2, v3]; simp [amt]; try omega
            rw [ez]
            exact ZK.fz z3
          · simp [compare'] at hq
            refine go ?_
            obtain ⟨q1, q2⟩ := cmp_nonneg o1 o2 r1 r2 r3 hq
            refine semH_of_semC (num_subWords w1 w2 o1.1 o2.1 (by omega) (by omega) (by omega)) (fun u hu => ?_)
            obtain ⟨c3, l3, rfl, w3, o3, v3, len3⟩ := hu
            refine go ?_
            refine semH_of_semC (num_made false w3 o3 (by omega)) (fun u hu => ?_)
            obtain ⟨cs3, rfl, z3⟩ := hu
            obtain ⟨a0, a1, a2, rfl⟩ := z3.three
            refine go ?_
            have ez : x + y = amt false (val l3) := by rw [e1, e2, v3]; simp [amt]; try omega
            rw [ez]
            exact ZK.fz z3
        · refine go ?_
          refine semH_of_semC (num_cmpWords w1 w2 o1.1 o2.1 (by omega)) (fun u hu => ?_)
          obtain ⟨r, rfl, r1, r2, r3⟩ := hu
          refine go ?_
          cases hq : compare' Cm.geq r 0
          · simp [compare'] at hq
            refine go ?_
            obtain ⟨q1, q2⟩ := cmp_neg o1 o2 r1 r2 r3 hq
            refine semH_of_semC (num_subWords w2 w1 o2.1 o1.1 (by omega) (by omega) (by omega)) (fun u hu => ?_)
            obtain ⟨c3, l3, rfl, w3, o3, v3, len3⟩ := hu
            refine go ?_
            refine semH_of_semC (num_made false w3 o3 (by omega)) (fun u hu => ?_)
            obtain ⟨cs3, rfl, z3⟩ := hu
            obtain ⟨a0, a1, a2, rfl⟩ := z3.three
            refine go ?_
            have ez : x + y = amt false (val l3) := by rw [e1, e2, v3]; simp [amt]; try omega
            rw [ez]
            exact ZK.fz z3
          · simp [compare'] at hq
            refine go ?_
            obtain ⟨q1, q2⟩ := cmp_nonneg o1 o2 r1 r2 r3 hq
            refine semH_of_semC (num_subWords w1 w2 o1.1 o2.1 (by omega) (by omega) (by omega)) (fun u hu => ?_)
            obtain ⟨c3, l3, rfl, w3, o3, v3, len3⟩ := hu
            refine go ?_
            refine semH_of_semC (num_made true w3 o3 (by omega)) (fun u hu => ?_)
            obtain ⟨cs3, rfl, z3⟩ := hu
            obtain ⟨a0, a1, a2, rfl⟩ := z3.three
            refine go ?_
            have ez : x + y = amt true (val l3) := by rw [e1, e2, v3]; simp [amt]; try omega
            rw [ez]
            exact ZK.fz z3
        · refine go ?_
          refine semH_of_semC (num_addWords w1 w2 o1.1 o2.1 (by omega) (by omega)) (fun u hu => ?_)
          obtain ⟨c3, l3, rfl, w3, o3, v3, len3⟩ := hu
          refine go ?_
          refine semH_of_semC (num_made true w3 o3 (by omega)) (fun u hu => ?_)
          obtain ⟨cs3, rfl, z3⟩ := hu
          obtain ⟨a0, a1, a2, rfl⟩ := z3.three
          refine go ?_
          have ez : x + y = amt true (val l3) := by rw [e1, e2, v3]; simp [amt]; try omega
          rw [ez]
          exact ZK.fz z3
      · simp only [compare', beq_iff_eq] at hq
        have hs : arith .add .i64 x y = x + y ∧ -9223372036854775808 ≤ x + y ∧ x + y < 9223372036854775808 := add_fits x1 x2 y1 y2 hq
        refine go ?_
        rw [hs.1]
        exact ZK.fz (.small _ hs.2.1 hs.2.2)
    · refine go ?_
      refine semH_of_semC (num_Z_words hx) (fun u hu => ?_)
      obtain ⟨c1, l1, n1, rfl, w1, o1, e1⟩ := hu
      refine go ?_
      refine semH_of_semC (num_Z_words hy) (fun u hu => ?_)
      obtain ⟨c2, l2, n2, rfl, w2, o2, e2⟩ := hu
      refine go ?_
      have hl1 : l1.length ≤ n := norm_len o1 (by rw [e1] at sx; rwa [amt_abs] at sx)
      have hl2 : l2.length ≤ n := norm_len o2 (by rw [e2] at sy; rwa [amt_abs] at sy)
      cases n1 <;> cases n2
      · refine go ?_
        refine semH_of_semC (num_addWords w1 w2 o1.1 o2.1 (by omega) (by omega)) (fun u hu => ?_)
        obtain ⟨c3, l3, rfl, w3, o3, v3, len3⟩ := hu
        refine go ?_
        refine semH_of_semC (num_made false w3 o3 (by omega)) (fun u hu => ?_)
        obtain ⟨cs3, rfl, z3⟩ := hu
        obtain ⟨a0, a1, a2, rfl⟩ := z3.three
        refine go ?_
        have ez : x + y = amt false (val l3) := by rw [e1, e2, v3]; simp [amt]; try omega
        rw [ez]
        exact ZK.fz z3
      · refine go ?_
        refine semH_of_semC (num_cmpWords w1 w2 o1.1 o2.1 (by omega)) (fun u hu => ?_)
        obtain ⟨r, rfl, r1, r2, r3⟩ := hu
        refine go ?_
        cases hq : compare' Cm.geq r 0
        · simp [compare'] at hq
          refine go ?_
          obtain ⟨q1, q2⟩ := cmp_neg o1 o2 r1 r2 r3 hq
          refine semH_of_semC (num_subWords w2 w1 o2.1 o1.1 (by omega) (by omega) (by omega)) (fun u hu => ?_)
          obtain ⟨c3, l3, rfl, w3, o3, v3, len3⟩ := hu
          refine go ?_
          refine semH_of_semC (num_made true w3 o3 (by omega)) (fun u hu => ?_)
          obtain ⟨cs3, rfl, z3⟩ := hu
          obtain ⟨a0, a1, a2, rfl⟩ := z3.three
          refine go ?_
          have ez : x + y = amt true (val l3) := by rw [e1, e2, v3]; simp [amt]; try omega
          rw [ez]
          exact ZK.fz z3
        · simp [compare'] at hq
          refine go ?_
          obtain ⟨q1, q2⟩ := cmp_nonneg o1 o2 r1 r2 r3 hq
          refine semH_of_semC (num_subWords w1 w2 o1.1 o2.1 (by omega) (by omega) (by omega)) (fun u hu => ?_)
          obtain ⟨c3, l3, rfl, w3, o3, v3, len3⟩ := hu
          refine go ?_
          refine semH_of_semC (num_made false w3 o3 (by omega)) (fun u hu => ?_)
          obtain ⟨cs3, rfl, z3⟩ := hu
          obtain ⟨a0, a1, a2, rfl⟩ := z3.three
          refine go ?_
          have ez : x + y = amt false (val l3) := by rw [e1, e2, v3]; simp [amt]; try omega
          rw [ez]
          exact ZK.fz z3
      · refine go ?_
        refine semH_of_semC (num_cmpWords w1 w2 o1.1 o2.1 (by omega)) (fun u hu => ?_)
        obtain ⟨r, rfl, r1, r2, r3⟩ := hu
        refine go ?_
        cases hq : compare' Cm.geq r 0
        · simp [compare'] at hq
          refine go ?_
          obtain ⟨q1, q2⟩ := cmp_neg o1 o2 r1 r2 r3 hq
          refine semH_of_semC (num_subWords w2 w1 o2.1 o1.1 (by omega) (by omega) (by omega)) (fun u hu => ?_)
          obtain ⟨c3, l3, rfl, w3, o3, v3, len3⟩ := hu
          refine go ?_
          refine semH_of_semC (num_made false w3 o3 (by omega)) (fun u hu => ?_)
          obtain ⟨cs3, rfl, z3⟩ := hu
          obtain ⟨a0, a1, a2, rfl⟩ := z3.three
          refine go ?_
          have ez : x + y = amt false (val l3) := by rw [e1, e2, v3]; simp [amt]; try omega
          rw [ez]
          exact ZK.fz z3
        · simp [compare'] at hq
          refine go ?_
          obtain ⟨q1, q2⟩ := cmp_nonneg o1 o2 r1 r2 r3 hq
          refine semH_of_semC (num_subWords w1 w2 o1.1 o2.1 (by omega) (by omega) (by omega)) (fun u hu => ?_)
          obtain ⟨c3, l3, rfl, w3, o3, v3, len3⟩ := hu
          refine go ?_
          refine semH_of_semC (num_made true w3 o3 (by omega)) (fun u hu => ?_)
          obtain ⟨cs3, rfl, z3⟩ := hu
          obtain ⟨a0, a1, a2, rfl⟩ := z3.three
          refine go ?_
          have ez : x + y = amt true (val l3) := by rw [e1, e2, v3]; simp [amt]; try omega
          rw [ez]
          exact ZK.fz z3
      · refine go ?_
        refine semH_of_semC (num_addWords w1 w2 o1.1 o2.1 (by omega) (by omega)) (fun u hu => ?_)
        obtain ⟨c3, l3, rfl, w3, o3, v3, len3⟩ := hu
        refine go ?_
        refine semH_of_semC (num_made true w3 o3 (by omega)) (fun u hu => ?_)
        obtain ⟨cs3, rfl, z3⟩ := hu
        obtain ⟨a0, a1, a2, rfl⟩ := z3.three
        refine go ?_
        have ez : x + y = amt true (val l3) := by rw [e1, e2, v3]; simp [amt]; try omega
        rw [ez]
        exact ZK.fz z3
  · obtain ⟨d0, d1, d2, rfl⟩ := hy.three
    refine go ?_
    refine semH_of_semC (num_Z_words hx) (fun u hu => ?_)
    obtain ⟨c1, l1, n1, rfl, w1, o1, e1⟩ := hu
    refine go ?_
    refine semH_of_semC (num_Z_words hy) (fun u hu => ?_)
    obtain ⟨c2, l2, n2, rfl, w2, o2, e2⟩ := hu
    refine go ?_
    have hl1 : l1.length ≤ n := norm_len o1 (by rw [e1] at sx; rwa [amt_abs] at sx)
    have hl2 : l2.length ≤ n := norm_len o2 (by rw [e2] at sy; rwa [amt_abs] at sy)
    cases n1 <;> cases n2
    · refine go ?_
      refine semH_of_semC (num_addWords w1 w2 o1.1 o2.1 (by omega) (by omega)) (fun u hu => ?_)
      obtain ⟨c3, l3, rfl, w3, o3, v3, len3⟩ := hu
      refine go ?_
      refine semH_of_semC (num_made false w3 o3 (by omega)) (fun u hu => ?_)
      obtain ⟨cs3, rfl, z3⟩ := hu
      obtain ⟨a0, a1, a2, rfl⟩ := z3.three
      refine go ?_
      have ez : x + y = amt false (val l3) := by rw [e1, e2, v3]; simp [amt]; try omega
      rw [ez]
      exact ZK.fz z3
    · refine go ?_
      refine semH_of_semC (num_cmpWords w1 w2 o1.1 o2.1 (by omega)) (fun u hu => ?_)
      obtain ⟨r, rfl, r1, r2, r3⟩ := hu
      refine go ?_
      cases hq : compare' Cm.geq r 0
      · simp [compare'] at hq
        refine go ?_
        obtain ⟨q1, q2⟩ := cmp_neg o1 o2 r1 r2 r3 hq
        refine semH_of_semC (num_subWords w2 w1 o2.1 o1.1 (by omega) (by omega) (by omega)) (fun u hu => ?_)
        obtain ⟨c3, l3, rfl, w3, o3, v3, len3⟩ := hu
        refine go ?_
        refine semH_of_semC (num_made true w3 o3 (by omega)) (fun u hu => ?_)
        obtain ⟨cs3, rfl, z3⟩ := hu
        obtain ⟨a0, a1, a2, rfl⟩ := z3.three
        refine go ?_
        have ez : x + y = amt true (val l3) := by rw [e1, e2, v3]; simp [amt]; try omega
        rw [ez]
        exact ZK.fz z3
      · simp [compare'] at hq
        refine go ?_
        obtain ⟨q1, q2⟩ := cmp_nonneg o1 o2 r1 r2 r3 hq
        refine semH_of_semC (num_subWords w1 w2 o1.1 o2.1 (by omega) (by omega) (by omega)) (fun u hu => ?_)
        obtain ⟨c3, l3, rfl, w3, o3, v3, len3⟩ := hu
        refine go ?_
        refine semH_of_semC (num_made false w3 o3 (by omega)) (fun u hu => ?_)
        obtain ⟨cs3, rfl, z3⟩ := hu
        obtain ⟨a0, a1, a2, rfl⟩ := z3.three
        refine go ?_
        have ez : x + y = amt false (val l3) := by rw [e1, e2, v3]; simp [amt]; try omega
        rw [ez]
        exact ZK.fz z3
    · refine go ?_
      refine semH_of_semC (num_cmpWords w1 w2 o1.1 o2.1 (by omega)) (fun u hu => ?_)
      obtain ⟨r, rfl, r1, r2, r3⟩ := hu
      refine go ?_
      cases hq : compare' Cm.geq r 0
      · simp [compare'] at hq
        refine go ?_
        obtain ⟨q1, q2⟩ := cmp_neg o1 o2 r1 r2 r3 hq
        refine semH_of_semC (num_subWords w2 w1 o2.1 o1.1 (by omega) (by omega) (by omega)) (fun u hu => ?_)
        obtain ⟨c3, l3, rfl, w3, o3, v3, len3⟩ := hu
        refine go ?_
        refine semH_of_semC (num_made false w3 o3 (by omega)) (fun u hu => ?_)
        obtain ⟨cs3, rfl, z3⟩ := hu
        obtain ⟨a0, a1, a2, rfl⟩ := z3.three
        refine go ?_
        have ez : x + y = amt false (val l3) := by rw [e1, e2, v3]; simp [amt]; try omega
        rw [ez]
        exact ZK.fz z3
      · simp [compare'] at hq
        refine go ?_
        obtain ⟨q1, q2⟩ := cmp_nonneg o1 o2 r1 r2 r3 hq
        refine semH_of_semC (num_subWords w1 w2 o1.1 o2.1 (by omega) (by omega) (by omega)) (fun u hu => ?_)
        obtain ⟨c3, l3, rfl, w3, o3, v3, len3⟩ := hu
        refine go ?_
        refine semH_of_semC (num_made true w3 o3 (by omega)) (fun u hu => ?_)
        obtain ⟨cs3, rfl, z3⟩ := hu
        obtain ⟨a0, a1, a2, rfl⟩ := z3.three
        refine go ?_
        have ez : x + y = amt true (val l3) := by rw [e1, e2, v3]; simp [amt]; try omega
        rw [ez]
        exact ZK.fz z3
    · refine go ?_
      refine semH_of_semC (num_addWords w1 w2 o1.1 o2.1 (by omega) (by omega)) (fun u hu => ?_)
      obtain ⟨c3, l3, rfl, w3, o3, v3, len3⟩ := hu
      refine go ?_
      refine semH_of_semC (num_made true w3 o3 (by omega)) (fun u hu => ?_)
      obtain ⟨cs3, rfl, z3⟩ := hu
      obtain ⟨a0, a1, a2, rfl⟩ := z3.three
      refine go ?_
      have ez : x + y = amt true (val l3) := by rw [e1, e2, v3]; simp [amt]; try omega
      rw [ez]
      exact ZK.fz z3

theorem num_I (v : Int) (h1 : -9223372036854775808 ≤ v) (h2 : v < 9223372036854775808) : semC Try.prog n_num_I [i64 v] (ZK v) := by
  refine semC_of_awpF ok_num_I rfl (show HFVs [i64 v] from ⟨trivial, trivial⟩) ?_
  refine go ?_
  exact ZK.fz (.small v h1 h2)

def IntK (n : Int) (u : V) : Prop := u = i64 n
theorem IntK.fz {n : Int} {H : Hp} : ∃ d, FzV H (i64 n) d ∧ IntK n d := ⟨_, .c (.hf trivial), rfl⟩
theorem sgn_amt {neg : Bool} {n : Nat} (h : 0 < n) : sgn (amt neg n) = bif neg then -1 else 1 := by
  cases neg <;> simp [sgn, amt] <;> omega
theorem num_Z_Sign {cs : List C} {x : Int} (hx : IsZ cs x) : semC Try.prog n_num_Z_Sign [.agg cs] (IntK (sgn x)) := by
  refine semC_of_awpF ok_num_Z_Sign rfl (show HFVs [.agg cs] from ⟨hx.hf, trivial⟩) ?_
  rcases hx.look with ⟨rfl, x1, x2⟩ | ⟨lx, nx, rfl, xn, xv, xe⟩
  · refine go ?_
    cases hq : compare' Cm.lss x 0
    · simp [compare'] at hq
      refine go ?_
      cases hq2 : compare' Cm.eql x 0
      · simp [compare'] at hq2
        refine go ?_
        rw [show sgn x = 1 by unfold sgn; rw [if_neg (by omega), if_neg hq2]]
        exact IntK.fz
      · simp [compare'] at hq2
        refine go ?_
        rw [show sgn x = 0 by unfold sgn; rw [if_neg (by omega), if_pos hq2]]
        exact IntK.fz
    · simp [compare'] at hq
      refine go ?_
      rw [show sgn x = -1 by unfold sgn; rw [if_pos hq]]
      exact IntK.fz
  · rw [xe, sgn_amt (by omega)]
    cases nx
    · refine go ?_
      exact IntK.fz
    · refine go ?_
      exact IntK.fz

theorem num_Z_Neg {cs : List C} {x : Int} {n : Nat} (hx : IsZ cs x) (sx : Sz n x) (hn : n ≤ 1073741824) : semC Try.prog n_num_Z_Neg [.agg cs] (ZK (-x)) := by
  refine semC_of_awpF ok_num_Z_Neg rfl (show HFVs [.agg cs] from ⟨hx.hf, trivial⟩) ?_
  unfold Sz at sx
  rcases hx.look with ⟨rfl, x1, x2⟩ | ⟨lx, nx, rfl, xn, xv, xe⟩
  · refine go ?_
    cases hq : compare' Cm.neq x (-9223372036854775808)
    · simp [compare'] at hq
      refine go ?_
      refine semH_of_semC (num_Z_words hx) (fun u hu => ?_)
      obtain ⟨c1, l1, n1, rfl, w1, o1, e1⟩ := hu
      refine go ?_
      have hl1 : l1.length ≤ n := norm_len o1 (by rw [e1] at sx; rwa [amt_abs] at sx)
      refine semH_of_semC (num_made (!n1) w1 o1.1 (by omega)) (fun u hu => ?_)
      obtain ⟨cs3, rfl, z3⟩ := hu
      obtain ⟨a0, a1, a2, rfl⟩ := z3.three
      refine go ?_
      rw [e1, show -amt n1 (val l1) = amt (!n1) (val l1) by cases n1 <;> simp [amt]]
      exact ZK.fz z3
    · simp [compare'] at hq
      refine go ?_
      rw [wrap_i64 (by omega) (by omega), Int.zero_sub]
      exact ZK.fz (.small _ (by omega) (by omega))
  · refine go ?_
    refine semH_of_semC (num_Z_words hx) (fun u hu => ?_)
    obtain ⟨c1, l1, n1, rfl, w1, o1, e1⟩ := hu
    refine go ?_
    have hl1 : l1.length ≤ n := norm_len o1 (by rw [e1] at sx; rwa [amt_abs] at sx)
    refine semH_of_semC (num_made (!n1) w1 o1.1 (by omega)) (fun u hu => ?_)
    obtain ⟨cs3, rfl, z3⟩ := hu
    obtain ⟨a0, a1, a2, rfl⟩ := z3.three
    refine go ?_
    rw [e1, show -amt n1 (val l1) = amt (!n1) (val l1) by cases n1 <;> simp [amt]]
    exact ZK.fz z3

theorem num_Z_Abs {cs : List C} {x : Int} {n : Nat} (hx : IsZ cs x) (sx : Sz n x) (hn : n ≤ 1073741824) : semC Try.prog n_num_Z_Abs [.agg cs] (ZK x.natAbs) := by
  refine semC_of_awpF ok_num_Z_Abs rfl (show HFVs [.agg cs] from ⟨hx.hf, trivial⟩) ?_
  obtain ⟨c0, c1, c2, rfl⟩ := hx.three
  refine go ?_
  refine semH_of_semC (num_Z_Sign hx) (fun u hu => ?_)
  obtain rfl := hu
  refine go ?_
  cases hq : compare' Cm.lss (sgn x) 0
  · simp [compare'] at hq
    refine go ?_
    have : (x.natAbs : Int) = x := by
      unfold sgn at hq
      split at hq <;> omega
    rw [this]
    exact ZK.fz hx
  · simp [compare'] at hq
    refine go ?_
    refine semH_of_semC (num_Z_Neg hx sx hn) (fun u hu => ?_)
    obtain ⟨ds, rfl, hd⟩ := hu
    obtain ⟨d0, d1, d2, rfl⟩ := hd.three
    refine go ?_
    have : (x.natAbs : Int) = -x := by
      unfold sgn at hq
      split at hq
      · omega
      · split at hq <;> omega
    rw [this]
    exact ZK.fz hd

theorem Sz.neg {n : Nat} {x : Int} (h : Sz n x) : Sz n (-x) := by
  unfold Sz at h ⊢
  rwa [Int.natAbs_neg]
theorem num_Z_Sub {cs ds : List C} {x y : Int} {n : Nat} (hx : IsZ cs x) (hy : IsZ ds y) (sx : Sz n x) (sy : Sz n y) (hn : n ≤ 1073741824) : semC Try.prog n_num_Z_Sub [.agg cs, .agg ds] (ZK (x - y)) := by
  refine semC_of_awpF ok_num_Z_Sub rfl (show HFVs [.agg cs, .agg ds] from ⟨hx.hf, hy.hf, trivial⟩) ?_
  obtain ⟨c0, c1, c2, rfl⟩ := hx.three
  obtain ⟨d0, d1, d2, rfl⟩ := hy.three
  refine go ?_
  refine call_C (num_Z_Neg hy sy hn) (fun u hu => ?_)
  obtain ⟨es, rfl, he⟩ := hu
  refine go ?_
  refine call_C (num_Z_Add hx he sx sy.neg hn) (fun u hu => ?_)
  obtain ⟨fs, rfl, hf⟩ := hu
  obtain ⟨f0, f1, f2, rfl⟩ := hf.three
  refine go ?_
  rw [Int.sub_eq_add_neg]
  exact ZK.fz hf
theorem num_Z_Cmp {cs ds : List C} {x y : Int} {n : Nat} (hx : IsZ cs x) (hy : IsZ ds y) (sx : Sz n x) (sy : Sz n y) (hn : n ≤ 1073741824) : semC Try.prog n_num_Z_Cmp [.agg cs, .agg ds] (IntK (sgn (x - y))) := by
  refine semC_of_awpF ok_num_Z_Cmp rfl (show HFVs [.agg cs, .agg ds] from ⟨hx.hf, hy.hf, trivial⟩) ?_
  have hsub := num_Z_Sub hx hy sx sy hn
  rcases hx.look with ⟨rfl, x1, x2⟩ | ⟨lx, nx, rfl, xn, xv, xe⟩
  · rcases hy.look with ⟨rfl, y1, y2⟩ | ⟨ly, ny, rfl, yn, yv, ye⟩
    · refine go ?_
      cases hq : compare' Cm.lss x y
      · simp [compare'] at hq
        refine go ?_
        cases hq2 : compare' Cm.gtr x y
        · simp [compare'] at hq2
          refine go ?_
          rw [show sgn (x - y) = 0 by unfold sgn; rw [if_neg (by omega), if_pos (by omega)]]
          exact IntK.fz
        · simp [compare'] at hq2
          refine go ?_
          rw [show sgn (x - y) = 1 by unfold sgn; rw [if_neg (by omega), if_neg (by omega)]]
          exact IntK.fz
      · simp [compare'] at hq
        refine go ?_
        rw [show sgn (x - y) = -1 by unfold sgn; rw [if_pos (by omega)]]
        exact IntK.fz
    · refine go ?_
      refine semH_of_semC hsub (fun u hu => ?_)
      obtain ⟨cs3, rfl, z3⟩ := hu
      refine go ?_
      refine semH_of_semC (num_Z_Sign z3) (fun u hu => ?_)
      obtain rfl := hu
      refine go ?_
      exact IntK.fz
  · obtain ⟨d0, d1, d2, rfl⟩ := hy.three
    refine go ?_
    refine semH_of_semC hsub (fun u hu => ?_)
    obtain ⟨cs3, rfl, z3⟩ := hu
    refine go ?_
    refine semH_of_semC (num_Z_Sign z3) (fun u hu => ?_)
    obtain rfl := hu
    refine go ?_
    exact IntK.fz
end Go.Proofs.Ytjncgcnofiaiaaa
