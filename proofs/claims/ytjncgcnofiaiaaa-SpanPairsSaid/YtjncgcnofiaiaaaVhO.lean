/-
  Shifting words.
-/
import Derived.Test.YtjncgcnofiaiaaaVhN
set_option linter.unusedVariables false
set_option linter.unusedSimpArgs false
namespace Go.Proofs.Ytjncgcnofiaiaaa
open Go.RowKit
set_option maxRecDepth 20000

theorem or_u32 {lo m n : Nat} (hn : n ≤ 31) (hlo : lo < 2 ^ n) (hm : m * 2 ^ n < 4294967296) : arith .or .u32 (lo : Int) ((m * 2 ^ n : Nat) : Int) = ((lo + m * 2 ^ n : Nat) : Int) := by
  have h31 : 2 ^ n ≤ 2147483648 := by
    have := Nat.pow_le_pow_right (n := 2) (by decide) hn
    simpa using this
  have hsum : lo + m * 2 ^ n < 4294967296 := by
    have e : lo + m * 2 ^ n = (m <<< n) ||| lo := by
      rw [← Nat.shiftLeft_add_eq_or_of_lt hlo, Nat.shiftLeft_eq]
      omega
    rw [e]
    exact Nat.or_lt_two_pow (n := 32) (by rw [Nat.shiftLeft_eq]; exact hm) (by omega)
  generalize hp : m * 2 ^ n = p at hm hsum
  have e : (BitVec.ofInt 32 (lo : Int) ||| BitVec.ofInt 32 (p : Int)).toNat = lo + p := by
    rw [BitVec.toNat_or, BitVec.toNat_ofInt, BitVec.toNat_ofInt]
    have e1 : ((lo : Int) % ((2 ^ 32 : Nat) : Int)).toNat = lo := by omega
    have e2 : ((p : Int) % ((2 ^ 32 : Nat) : Int)).toNat = p := by omega
    rw [e1, e2, Nat.or_comm, ← hp, ← Nat.shiftLeft_eq, ← Nat.shiftLeft_add_eq_or_of_lt hlo]
    omega
  show IntKind.u32.wrap ((BitVec.ofInt 32 (lo : Int) ||| BitVec.ofInt 32 (p : Int)).toNat : Int) = _
  rw [e, wrap_u32]
  omega
/-- A word shifted falls into a lower part, a multiple of 2^n, and what goes over. -/
theorem shl_parts {x n : Nat} (hn : n ≤ 31) (hx : x < 4294967296) : ∃ m, x * 2 ^ n % 4294967296 = m * 2 ^ n ∧ x * 2 ^ n / 4294967296 < 2 ^ n ∧ x * 2 ^ n < 18446744073709551616 := by
  have e : (4294967296 : Nat) = 2 ^ (32 - n) * 2 ^ n := by
    rw [← Nat.pow_add, show 32 - n + n = 32 by omega]
  have hp : 0 < 2 ^ n := Nat.pow_pos (by decide)
  have h31 : 2 ^ n ≤ 2147483648 := by
    have := Nat.pow_le_pow_right (n := 2) (by decide) hn
    simpa using this
  refine ⟨x % 2 ^ (32 - n), ?_, ?_, ?_⟩
  · rw [e, Nat.mul_mod_mul_right]
  · rw [Nat.div_lt_iff_lt_mul (by decide), Nat.mul_comm]
    exact Nat.mul_lt_mul_of_pos_left hx hp
  · have := Nat.mul_le_mul (Nat.le_of_lt hx) h31
    omega
theorem last_live (H : Hp) (s : Slot) : (H ++ [s])[H.length]? = some s := by simp
theorem set_last (H : Hp) (s t : Slot) : (H ++ [s]).set H.length t = H ++ [t] := by simp
attribute [local irreducible] compare' semH semC qLen qNil qIad qSlc qIdx ldBox ldCells stBox appX awpF awpOpsF awpDF xopF xopDF qval lval seqQ blockQ loopQ bodyF retKF cnd arith IntKind.wrap

theorem ref01_shifted {c : C} {a : List Nat} {n : Nat} (hc : Wd c a) (ha : OkW a) (hn : n ≤ 31) (hl : a.length < 2147483648) (H : Hp) {K : V → Hp → Prop}
    (hK : ∀ out, out.length = a.length + 1 → OkW out → val out = val a * 2 ^ n → K (.c (.sl H.length 0 (a.length + 1) (some (a.length + 1)) 1)) (H ++ [.live ⟨out.map W, T_uint32, .rw⟩])) :
    semH Try.prog n_ref01_shifted [.c c, .c (.int .u64 (n : Int))] H K := by
  refine semH_of_awpF ok_ref01_shifted rfl ?_
  refine go ?_
  have e : arith .add .i64 (a.length : Int) 1 = ((a.length + 1 : Nat) : Int) := by
    rw [ar_add, wrap_i64 (by omega) (by omega)]
    omega
  rw [e]
  refine x_mkSl (by rfl) (by rfl) ⟨by omega, by omega, by omega, by omega⟩ ?_
  rw [Int.toNat_natCast, zeros]
  refine go ?_
  refine f_loop (fun m vs H' => ∃ (i : Nat) (out : List Nat), vs = [.c c, .c (.int .u64 (n : Int)), .c (.sl H.length 0 (a.length + 1) (some (a.length + 1)) 1), i64 (i : Int)] ∧ H' = H ++ [.live ⟨out.map W, T_uint32, .rw⟩] ∧ m = a.length - i ∧ i ≤ a.length ∧ out.length = a.length + 1 ∧ OkW out ∧ val out = val (a.take i) * 2 ^ n ∧ at0 out i < 2 ^ n ∧ ∀ k, i < k → at0 out k = 0) (by rfl) ⟨0, _, rfl, rfl, rfl, by omega, by simp, fun x hx => by simp at hx; omega, by simp [val, val_zeros], by rw [at0_zeros]; exact Nat.pow_pos (by decide), fun k _ => at0_zeros _ k⟩ ?_
  rintro m vs H' ⟨i, out, rfl, rfl, rfl, k1, k2, k3, k4, k5, k6⟩
  refine go ?_
  cases h : compare' Cm.lss (i : Int) a.length
  · simp [compare'] at h
    refine go ?_
    have ei : i = a.length := by omega
    subst ei
    rw [val_all (Nat.le_refl _)] at k4
    exact hK out k2 k3 k4
  · simp [compare'] at h
    refine go ?_
    have gx := ha.get i
    obtain ⟨m, q1, q2, q3⟩ := shl_parts hn gx
    have h31 : 2 ^ n ≤ 2147483648 := by
      have := Nat.pow_le_pow_right (n := 2) (by decide) hn
      simpa using this
    rw [show IntKind.u64.wrap (IntKind.u64.wrap ((at0 a ((i : Nat) : Int).toNat : Nat) : Int) * 2 ^ min ((n : Nat) : Int).toNat IntKind.u64.bits) = ((at0 a i * 2 ^ n : Nat) : Int) by
      rw [Int.toNat_natCast, Int.toNat_natCast, wrapN _ (by omega), show min n IntKind.u64.bits = n from Nat.min_eq_left (by show n ≤ 64; omega), show ((at0 a i : Nat) : Int) * 2 ^ n = ((at0 a i * 2 ^ n : Nat) : Int) by simp, wrapN _ q3]]
    refine idx_sl (by rfl) (by rfl) (by omega) (by omega) ?_
    refine go ?_
    refine ld_word (k := i) (last_live _ _) (by omega) (by omega) ?_
    refine go ?_
    rw [show IntKind.u32.wrap ((at0 a i * 2 ^ n : Nat) : Int) = ((m * 2 ^ n : Nat) : Int) by rw [wrap_u32, ← q1]; omega, or_u32 hn k5 (by omega)]
    refine idx_sl (by rfl) (by rfl) (by omega) (by omega) ?_
    refine go ?_
    refine st_word (k := i) (last_live _ _) (by rfl) (by omega) (by omega) ?_
    rw [set_last]
    refine go ?_
    have e3 : arith .add .i64 ((i : Nat) : Int) 1 = ((i + 1 : Nat) : Int) := by
      rw [ar_add, wrap_i64 (by omega) (by omega)]
      omega
    rw [e3, shrN, show IntKind.u32.wrap ((at0 a i * 2 ^ n / 4294967296 : Nat) : Int) = ((at0 a i * 2 ^ n / 4294967296 : Nat) : Int) by rw [wrap_u32]; omega]
    refine idx_sl (by rfl) (by rfl) (by omega) (by omega) ?_
    refine go ?_
    refine st_word (k := i + 1) (last_live _ _) (by rfl) (by omega) (by simp; omega) ?_
    rw [set_last]
    refine go ?_
    rw [e3]
    have hw : at0 out i + m * 2 ^ n < 4294967296 := by
      have e5 : at0 out i + m * 2 ^ n = (m <<< n) ||| at0 out i := by
        rw [← Nat.shiftLeft_add_eq_or_of_lt k5, Nat.shiftLeft_eq]
        omega
      rw [e5]
      exact Nat.or_lt_two_pow (n := 32) (by rw [Nat.shiftLeft_eq]; omega) (by omega)
    refine l_n (by rfl) (by omega) ⟨i + 1, _, rfl, rfl, rfl, by omega, by simp [k2], (k3.set hw).set (by omega), ?_, ?_, fun k hk => ?_⟩
    · have v1 := val_set out i (at0 out i + m * 2 ^ n) (by omega)
      have v2 := val_set (out.set i (at0 out i + m * 2 ^ n)) (i + 1) (at0 a i * 2 ^ n / 4294967296) (by simp; omega)
      rw [at0_set (by omega), k6 (i + 1) (by omega), Nat.mul_zero, Nat.add_zero] at v2
      rw [v2, val_take_succ, Nat.add_mul, ← k4]
      rw [Nat.mul_add] at v1
      have v3 : 4294967296 ^ i * (m * 2 ^ n) + 4294967296 ^ (i + 1) * (at0 a i * 2 ^ n / 4294967296) = 4294967296 ^ i * at0 a i * 2 ^ n := by
        rw [← q1, Nat.pow_succ, Nat.mul_assoc, ← Nat.mul_add, Nat.mod_add_div, Nat.mul_assoc]
      omega
    · have : at0 ((out.set i (at0 out i + m * 2 ^ n)).set (i + 1) (at0 a i * 2 ^ n / 4294967296)) (i + 1) = at0 a i * 2 ^ n / 4294967296 := by
        unfold at0
        rw [List.getD_eq_getElem?_getD, List.getElem?_set_self (by simp; omega)]
        rfl
      rw [this]
      exact q2
    · rw [at0_set (by omega), at0_set (by omega)]
      exact k6 k (by omega)
end Go.Proofs.Ytjncgcnofiaiaaa
