/-
  ref01.parts with a divisor of two words or more; the whole contract; divisor.
-/
import Derived.Test.YtjncgcnofiaiaaaGreatMb2
/-
  Shifting words.
-/
set_option linter.unusedVariables false
set_option linter.unusedSimpArgs false
namespace Go.Proofs.YtjncgcnofiaiaaaGreat
open Go.RowKit
set_option maxRecDepth 20000

theorem or_u32 {lo m n : Nat} (hn : n ≤ 31) (hlo : lo < 2 ^ n) (hm : m * 2 ^ n < 4294967296) : arith .or .u32 (lo : Int) ((m * 2 ^ n : Nat) : Int) = ((lo + m * 2 ^ n : Nat) : Int) := by
  have h31 : 2 ^ n ≤ 2147483648 := by
    have := Nat.pow_le_pow_right (n := 2) (by decide) hn
    simpa using this
  have hsum : lo + m * 2 ^ n < 4294967296 := by
    have e : lo + m * 2 ^ n = (m <<< n) ||| lo := by
      rw [← Nat.shiftLeft_add_eq_or_of_lt hlo, Nat.shiftLeft_eq]
      omega
    rw [e]
    exact Nat.or_lt_two_pow (n := 32) (by rw [Nat.shiftLeft_eq]; exact hm) (by omega)
  generalize hp : m * 2 ^ n = p at hm hsum
  have e : (BitVec.ofInt 32 (lo : Int) ||| BitVec.ofInt 32 (p : Int)).toNat = lo + p := by
    rw [BitVec.toNat_or, BitVec.toNat_ofInt, BitVec.toNat_ofInt]
    have e1 : ((lo : Int) % ((2 ^ 32 : Nat) : Int)).toNat = lo := by omega
    have e2 : ((p : Int) % ((2 ^ 32 : Nat) : Int)).toNat = p := by omega
    rw [e1, e2, Nat.or_comm, ← hp, ← Nat.shiftLeft_eq, ← Nat.shiftLeft_add_eq_or_of_lt hlo]
    omega
  show IntKind.u32.wrap ((BitVec.ofInt 32 (lo : Int) ||| BitVec.ofInt 32 (p : Int)).toNat : Int) = _
  rw [e, wrap_u32]
  omega
/-- A word shifted falls into a lower part, a multiple of 2^n, and what goes over. -/
theorem shl_parts {x n : Nat} (hn : n ≤ 31) (hx : x < 4294967296) : ∃ m, x * 2 ^ n % 4294967296 = m * 2 ^ n ∧ x * 2 ^ n / 4294967296 < 2 ^ n ∧ x * 2 ^ n < 18446744073709551616 := by
  have e : (4294967296 : Nat) = 2 ^ (32 - n) * 2 ^ n := by
    rw [← Nat.pow_add, show 32 - n + n = 32 by omega]
  have hp : 0 < 2 ^ n := Nat.pow_pos (by decide)
  have h31 : 2 ^ n ≤ 2147483648 := by
    have := Nat.pow_le_pow_right (n := 2) (by decide) hn
    simpa using this
  refine ⟨x % 2 ^ (32 - n), ?_, ?_, ?_⟩
  · rw [e, Nat.mul_mod_mul_right]
  · rw [Nat.div_lt_iff_lt_mul (by decide), Nat.mul_comm]
    exact Nat.mul_lt_mul_of_pos_left hx hp
  · have := Nat.mul_le_mul (Nat.le_of_lt hx) h31
    omega
theorem last_live (H : Hp) (s : Slot) : (H ++ [s])[H.length]? = some s := by simp
theorem set_last (H : Hp) (s t : Slot) : (H ++ [s]).set H.length t = H ++ [t] := by simp
attribute [local irreducible] compare' semH semC qLen qNil qIad qSlc qIdx ldBox ldCells stBox appX awpF awpOpsF awpDF xopF xopDF qval lval seqQ blockQ loopQ bodyF retKF cnd arith IntKind.wrap

theorem ref01_shifted {c : C} {a : List Nat} {n : Nat} (hc : Wd c a) (ha : OkW a) (hn : n ≤ 31) (hl : a.length < 2147483648) (H : Hp) {K : V → Hp → Prop}
    (hK : ∀ out, out.length = a.length + 1 → OkW out → val out = val a * 2 ^ n → K (.c (.sl H.length 0 (a.length + 1) (some (a.length + 1)) 1)) (H ++ [.live ⟨out.map W, T_uint32, .rw⟩])) :
    semH Tryz.prog n_ref01_shifted [.c c, .c (.int .u64 (n : Int))] H K := by
  refine semH_of_awpF ok_ref01_shifted rfl ?_
  refine go ?_
  have e : arith .add .i64 (a.length : Int) 1 = ((a.length + 1 : Nat) : Int) := by
    rw [ar_add, wrap_i64 (by omega) (by omega)]
    omega
  rw [e]
  refine x_mkSl (by rfl) (by rfl) ⟨by omega, by omega, by omega, by omega⟩ ?_
  rw [Int.toNat_natCast, zeros]
  refine go ?_
  refine f_loop (fun m vs H' => ∃ (i : Nat) (out : List Nat), vs = [.c c, .c (.int .u64 (n : Int)), .c (.sl H.length 0 (a.length + 1) (some (a.length + 1)) 1), i64 (i : Int)] ∧ H' = H ++ [.live ⟨out.map W, T_uint32, .rw⟩] ∧ m = a.length - i ∧ i ≤ a.length ∧ out.length = a.length + 1 ∧ OkW out ∧ val out = val (a.take i) * 2 ^ n ∧ at0 out i < 2 ^ n ∧ ∀ k, i < k → at0 out k = 0) (by rfl) ⟨0, _, rfl, rfl, rfl, by omega, by simp, fun x hx => by simp at hx; omega, by simp [val, val_zeros], by rw [at0_zeros]; exact Nat.pow_pos (by decide), fun k _ => at0_zeros _ k⟩ ?_
  rintro m vs H' ⟨i, out, rfl, rfl, rfl, k1, k2, k3, k4, k5, k6⟩
  refine go ?_
  cases h : compare' Cm.lss (i : Int) a.length
  · simp [compare'] at h
    refine go ?_
    have ei : i = a.length := by omega
    subst ei
    rw [val_all (Nat.le_refl _)] at k4
    exact hK out k2 k3 k4
  · simp [compare'] at h
    refine go ?_
    have gx := ha.get i
    obtain ⟨m, q1, q2, q3⟩ := shl_parts hn gx
    have h31 : 2 ^ n ≤ 2147483648 := by
      have := Nat.pow_le_pow_right (n := 2) (by decide) hn
      simpa using this
    rw [show IntKind.u64.wrap (IntKind.u64.wrap ((at0 a ((i : Nat) : Int).toNat : Nat) : Int) * 2 ^ min ((n : Nat) : Int).toNat IntKind.u64.bits) = ((at0 a i * 2 ^ n : Nat) : Int) by
      rw [Int.toNat_natCast, Int.toNat_natCast, wrapN _ (by omega), show min n IntKind.u64.bits = n from Nat.min_eq_left (by show n ≤ 64; omega), show ((at0 a i : Nat) : Int) * 2 ^ n = ((at0 a i * 2 ^ n : Nat) : Int) by simp, wrapN _ q3]]
    refine idx_sl (by rfl) (by rfl) (by omega) (by omega) ?_
    refine go ?_
    refine ld_word (k := i) (last_live _ _) (by omega) (by omega) ?_
    refine go ?_
    rw [show IntKind.u32.wrap ((at0 a i * 2 ^ n : Nat) : Int) = ((m * 2 ^ n : Nat) : Int) by rw [wrap_u32, ← q1]; omega, or_u32 hn k5 (by omega)]
    refine idx_sl (by rfl) (by rfl) (by omega) (by omega) ?_
    refine go ?_
    refine st_word (k := i) (last_live _ _) (by rfl) (by omega) (by omega) ?_
    rw [set_last]
    refine go ?_
    have e3 : arith .add .i64 ((i : Nat) : Int) 1 = ((i + 1 : Nat) : Int) := by
      rw [ar_add, wrap_i64 (by omega) (by omega)]
      omega
    rw [e3, shrN, show IntKind.u32.wrap ((at0 a i * 2 ^ n / 4294967296 : Nat) : Int) = ((at0 a i * 2 ^ n / 4294967296 : Nat) : Int) by rw [wrap_u32]; omega]
    refine idx_sl (by rfl) (by rfl) (by omega) (by omega) ?_
    refine go ?_
    refine st_word (k := i + 1) (last_live _ _) (by rfl) (by omega) (by simp; omega) ?_
    rw [set_last]
    refine go ?_
    rw [e3]
    have hw : at0 out i + m * 2 ^ n < 4294967296 := by
      have e5 : at0 out i + m * 2 ^ n = (m <<< n) ||| at0 out i := by
        rw [← Nat.shiftLeft_add_eq_or_of_lt k5, Nat.shiftLeft_eq]
        omega
      rw [e5]
      exact Nat.or_lt_two_pow (n := 32) (by rw [Nat.shiftLeft_eq]; omega) (by omega)
    refine l_n (by rfl) (by omega) ⟨i + 1, _, rfl, rfl, rfl, by omega, by simp [k2], (k3.set hw).set (by omega), ?_, ?_, fun k hk => ?_⟩
    · have v1 := val_set out i (at0 out i + m * 2 ^ n) (by omega)
      have v2 := val_set (out.set i (at0 out i + m * 2 ^ n)) (i + 1) (at0 a i * 2 ^ n / 4294967296) (by simp; omega)
      rw [at0_set (by omega), k6 (i + 1) (by omega), Nat.mul_zero, Nat.add_zero] at v2
      rw [v2, val_take_succ, Nat.add_mul, ← k4]
      rw [Nat.mul_add] at v1
      have v3 : 4294967296 ^ i * (m * 2 ^ n) + 4294967296 ^ (i + 1) * (at0 a i * 2 ^ n / 4294967296) = 4294967296 ^ i * at0 a i * 2 ^ n := by
        rw [← q1, Nat.pow_succ, Nat.mul_assoc, ← Nat.mul_add, Nat.mod_add_div, Nat.mul_assoc]
      omega
    · have : at0 ((out.set i (at0 out i + m * 2 ^ n)).set (i + 1) (at0 a i * 2 ^ n / 4294967296)) (i + 1) = at0 a i * 2 ^ n / 4294967296 := by
        unfold at0
        rw [List.getD_eq_getElem?_getD, List.getElem?_set_self (by simp; omega)]
        rfl
      rw [this]
      exact q2
    · rw [at0_set (by omega), at0_set (by omega)]
      exact k6 k (by omega)
end Go.Proofs.YtjncgcnofiaiaaaGreat

/-
  ref01.trim of a slice of a box.
-/
set_option linter.unusedVariables false
set_option linter.unusedSimpArgs false
namespace Go.Proofs.YtjncgcnofiaiaaaGreat
open Go.RowKit
set_option maxRecDepth 20000

theorem slc_sl {e : Env} {x : Option V} {lo hi : Option AO} {b off n : Nat} {co : Option Nat} {l h : Int} {K : V → Prop} (hx : x = some (.c (.sl b off n co 1))) (h1 : bnd e 0 lo = some l) (h2 : bnd e n hi = some h) (h3 : 0 ≤ l) (h4 : l ≤ h) (h5 : h ≤ n)
    (k : K (.c (.sl b (off + l.toNat * 1) (h.toNat - l.toNat) (co.map (· - l.toNat)) 1))) : qSlc e 1 x lo hi none K := by
  subst hx
  simp only [qSlc, h1, h2]
  exact chk_intro (by simp; omega) k
attribute [local irreducible] compare' semH semC qLen qNil qIad qSlc qIdx ldBox ldCells stBox appX awpF awpOpsF awpDF xopF xopDF qval lval seqQ blockQ loopQ bodyF retKF cnd arith IntKind.wrap

theorem ref01_trim_box {H : Hp} {b : Nat} {out : List Nat} {el : TypeId} {kd : BK} {co : Option Nat} {K : V → Hp → Prop} (hb : H[b]? = some (.live ⟨out.map W, el, kd⟩)) (hl : out.length < 4611686018427387904)
    (hK : ∀ k co', k ≤ out.length → val (out.take k) = val out → (k ≠ 0 → at0 out (k - 1) ≠ 0) → K (.c (.sl b 0 k co' 1)) H) : semH Tryz.prog n_ref01_trim [.c (.sl b 0 out.length co 1)] H K := by
  refine semH_of_awpF ok_ref01_trim rfl ?_
  refine go ?_
  refine f_loop (fun m vs H' => ∃ k co', vs = [.c (.sl b 0 k co' 1)] ∧ H' = H ∧ m = k ∧ k ≤ out.length ∧ val (out.take k) = val out) (by rfl) ⟨_, _, rfl, rfl, rfl, Nat.le_refl _, val_all (Nat.le_refl _)⟩ ?_
  rintro m vs H' ⟨k, co', rfl, rfl, rfl, k1, k2⟩
  refine go ?_
  cases hq : compare' Cm.gtr (m : Int) 0
  · simp [compare'] at hq
    refine go ?_
    exact hK m co' k1 k2 (fun h => absurd hq h)
  · simp [compare'] at hq
    refine go ?_
    have e : arith .sub .i64 (m : Int) 1 = ((m - 1 : Nat) : Int) := by
      rw [ar_sub, wrap_i64 (by omega) (by omega)]
      omega
    rw [e]
    refine idx_sl (by rfl) (by rfl) (by omega) (by omega) ?_
    refine go ?_
    refine ld_word (k := m - 1) hb (by omega) (by omega) ?_
    refine go ?_
    cases h : compare' Cm.eql ((at0 out (m - 1) : Nat) : Int) 0
    · simp only [compare', dec_false] at h
      refine go ?_
      exact hK m co' k1 k2 (fun _ => by omega)
    · simp only [compare', dec_true] at h
      refine go ?_
      refine slc_sl (by rfl) (by rfl) (by rfl) (by omega) (by rw [e]; omega) (by rw [e]; omega) ?_
      refine go ?_
      rw [e]
      refine l_n (by rfl) ?_ ⟨_, _, rfl, rfl, rfl, ?_, ?_⟩
      · simp; omega
      · simp; omega
      · have hv := val_take_succ out (m - 1)
        rw [show m - 1 + 1 = m by omega, show at0 out (m - 1) = 0 by omega] at hv
        simp
        omega
end Go.Proofs.YtjncgcnofiaiaaaGreat

/-
  The law of a quotient's word: the estimate out of the two top words.
-/
set_option linter.unusedVariables false
namespace Go.Proofs.YtjncgcnofiaiaaaGreat

section
variable {P X Y head x2 xl top next yl q rest : Nat}
/-- While the estimate fails the test, it is above the quotient. -/
theorem est_round (hP : 0 < P) (hX : X = (head * 4294967296 + x2) * P + xl) (hxl : xl < P) (hY : Y = (top * 4294967296 + next) * P + yl) (hq : q * top + rest = head) (ht : q * next > rest * 4294967296 + x2) : X < q * Y := by
  have h1 : q * (top * 4294967296 + next) = (q * top) * 4294967296 + q * next := by rw [Nat.mul_add, Nat.mul_assoc]
  have h2 : head * 4294967296 + x2 + 1 ≤ q * (top * 4294967296 + next) := by
    rw [h1, ← hq, Nat.add_mul]
    omega
  have h3 := Nat.mul_le_mul_right P h2
  have h4 : q * Y = q * (top * 4294967296 + next) * P + q * yl := by rw [hY, Nat.mul_add, Nat.mul_assoc]
  rw [Nat.add_mul, Nat.one_mul] at h3
  rw [hX, h4]
  omega
/-- When it passes the test, it is at most one above. -/
theorem est_end (hP : 0 < P) (hX : X = (head * 4294967296 + x2) * P + xl) (hY : Y = (top * 4294967296 + next) * P + yl) (hyl : yl < P) (htop : 1 ≤ top) (hq : q * top + rest = head) (hqB : q ≤ 4294967296) (h : q * next ≤ rest * 4294967296 + x2) : q * Y ≤ X + Y := by
  have h1 : q * (top * 4294967296 + next) = (q * top) * 4294967296 + q * next := by rw [Nat.mul_add, Nat.mul_assoc]
  have h2 : q * (top * 4294967296 + next) ≤ head * 4294967296 + x2 := by
    rw [h1, ← hq, Nat.add_mul]
    omega
  have h3 := Nat.mul_le_mul_right P h2
  have h4 : q * Y = q * (top * 4294967296 + next) * P + q * yl := by rw [hY, Nat.mul_add, Nat.mul_assoc]
  have h5 : q * yl ≤ 4294967296 * P := Nat.mul_le_mul hqB (Nat.le_of_lt hyl)
  have h6 : 4294967296 * P ≤ Y := by
    rw [hY]
    have : 4294967296 * P ≤ (top * 4294967296 + next) * P := Nat.mul_le_mul_right P (by omega)
    omega
  rw [h4, hX]
  omega
/-- When the rest is too great for a test, it is no greater than the quotient. -/
theorem est_over (hP : 0 < P) (hX : X = (head * 4294967296 + x2) * P + xl) (hY : Y = (top * 4294967296 + next) * P + yl) (hyl : yl < P) (hn : next < 4294967296) (hq : q * top + rest = head) (hqB : q < 4294967296) (h : 4294967296 ≤ rest) : q * Y ≤ X := by
  have h0 : Y ≤ (top + 1) * 4294967296 * P := by
    rw [hY]
    have h1 : (top * 4294967296 + next + 1) * P ≤ (top + 1) * 4294967296 * P := Nat.mul_le_mul_right P (by omega)
    rw [Nat.add_mul _ 1, Nat.one_mul] at h1
    omega
  have h1 := Nat.mul_le_mul_left q h0
  have h2 : q * ((top + 1) * 4294967296 * P) = (q * top + q) * 4294967296 * P := by
    rw [← Nat.mul_assoc, ← Nat.mul_assoc, Nat.mul_add, Nat.mul_one]
  have h3 : (q * top + q) * 4294967296 * P ≤ (head * 4294967296 + x2) * P := Nat.mul_le_mul_right P (by omega)
  rw [hX]
  omega
/-- The estimate to begin with is not below the quotient. -/
theorem est_start {Q : Nat} (hP : 0 < P) (hX : X = (head * 4294967296 + x2) * P + xl) (hx2 : x2 < 4294967296) (hxl : xl < P) (hY : Y = (top * 4294967296 + next) * P + yl) (hQ : Q * Y ≤ X) : Q * top ≤ head := by
  rcases Nat.lt_or_ge head (Q * top) with h | h
  · exfalso
    have h1 : (head + 1) * 4294967296 * P ≤ Q * top * 4294967296 * P := Nat.mul_le_mul_right P (Nat.mul_le_mul_right _ h)
    have h2 : Q * (top * 4294967296 * P) ≤ Q * Y := Nat.mul_le_mul_left Q (Nat.le_trans (Nat.mul_le_mul_right P (Nat.le_add_right _ next)) (by rw [hY]; exact Nat.le_add_right _ _))
    have h3 : Q * (top * 4294967296 * P) = Q * top * 4294967296 * P := by rw [← Nat.mul_assoc, ← Nat.mul_assoc]
    have h4 : (head * 4294967296 + x2 + 1) * P ≤ (head + 1) * 4294967296 * P := Nat.mul_le_mul_right P (by omega)
    rw [Nat.add_mul _ 1, Nat.one_mul] at h4
    omega
  · exact h
end
end Go.Proofs.YtjncgcnofiaiaaaGreat

/-
  Words within a box; the number laws of subtracting a multiple and adding back.
-/
set_option linter.unusedVariables false
set_option linter.unusedSimpArgs false
namespace Go.Proofs.YtjncgcnofiaiaaaGreat
open Go.RowKit

theorem at0_app {a b : List Nat} {i : Nat} (h : i < a.length) : at0 (a ++ b) i = at0 a i := by
  simp [at0, List.getElem?_append_left h]
theorem at0_mid {pre cur post : List Nat} {i : Nat} (h : i < cur.length) : at0 (pre ++ cur ++ post) (pre.length + i) = at0 cur i := by
  rw [at0_app (by simp; omega)]
  simp [at0, List.getElem?_append_right]
theorem set_mid {pre cur post : List Nat} {i w : Nat} (h : i < cur.length) : (pre ++ cur ++ post).set (pre.length + i) w = pre ++ cur.set i w ++ post := by
  rw [List.append_assoc, List.set_append_right _ _ (by omega), show pre.length + i - pre.length = i by omega, List.set_append_left _ _ h, List.append_assoc]
theorem ld_mid {s : Option Slot} {size off i : Nat} {pre cur post : List Nat} {el : TypeId} {kd : BK} {K : V → Prop} (h : s = some (.live ⟨(pre ++ cur ++ post).map W, el, kd⟩)) (ho : off = pre.length + i) (hi : i < cur.length) (kk : K (.c (.int .u32 (at0 cur i : Nat)))) : ldBox s false size off K := by
  refine ld_word h ho (by simp; omega) ?_
  rw [at0_mid hi]
  exact kk
theorem st_mid {s : Option Slot} {b off i w : Nat} {pre cur post : List Nat} {el : TypeId} {ds : Option (List C)} {K : Nat → Slot → Prop} (h : s = some (.live ⟨(pre ++ cur ++ post).map W, el, .rw⟩)) (h2 : ds = some [.int .u32 (w : Nat)]) (ho : off = pre.length + i) (hi : i < cur.length) (kk : K b (.live ⟨(pre ++ cur.set i w ++ post).map W, el, .rw⟩)) : stBox s b 1 off ds K := by
  refine st_word h h2 ho (by simp; omega) ?_
  rw [set_mid hi]
  exact kk
theorem get_set {H : Hp} {b : Nat} {s : Slot} (h : b < H.length) : (H.set b s)[b]? = some s := by
  simp [h]
theorem get_set_ne {H : Hp} {b c : Nat} {s : Slot} (h : b ≠ c) : (H.set b s)[c]? = H[c]? := by
  simp [List.getElem?_set_ne h]
theorem set_same {H : Hp} {b : Nat} {s : Slot} (h : H[b]? = some s) : H.set b s = H := by
  obtain ⟨h1, h2⟩ := List.getElem?_eq_some_iff.1 h
  rw [← h2, List.set_getElem_self]
theorem val_take_set {l : List Nat} {i w : Nat} (h : i < l.length) : val ((l.set i w).take (i + 1)) = val (l.take i) + 4294967296 ^ i * w := by
  rw [val_take_succ]
  have e : at0 (l.set i w) i = w := by simp [at0, h]
  rw [e, List.take_set_of_le (Nat.le_refl i)]

theorem sub_u64 {x s bo : Nat} (hx : x < 4294967296) (hs : s < 4294967296) (hb : bo ≤ 1) : ∃ d w b' : Nat, arith .sub .u64 (arith .sub .u64 (x : Int) (s : Int)) (bo : Int) = (d : Int) ∧ IntKind.u32.wrap (d : Int) = (w : Int) ∧ (d : Int).fdiv (2 ^ (min (63 : Int).toNat IntKind.u64.bits)) = (b' : Int) ∧ w < 4294967296 ∧ b' ≤ 1 ∧ x + 4294967296 * b' = w + s + bo := by
  have e2 : (2 : Int) ^ (min (63 : Int).toNat IntKind.u64.bits) = 9223372036854775808 := by decide
  rw [e2]
  rcases Nat.lt_or_ge x (s + bo) with h | h
  · refine ⟨18446744073709551616 + x - s - bo, 4294967296 + x - s - bo, 1, ?_, ?_, ?_, by omega, by omega, by omega⟩
    · rw [ar_sub, ar_sub, wrap_u64, wrap_u64]
      omega
    · rw [wrap_u32]
      omega
    · rw [Int.fdiv_eq_ediv_of_nonneg _ (by decide)]
      omega
  · refine ⟨x - s - bo, x - s - bo, 0, ?_, ?_, ?_, by omega, by omega, by omega⟩
    · rw [ar_sub, ar_sub, wrap_u64, wrap_u64]
      omega
    · rw [wrap_u32]
      omega
    · rw [Int.fdiv_eq_ediv_of_nonneg _ (by decide)]
      omega
theorem sub_row {p c u v x w q y carry bo t b' : Nat} (h : c + q * u = v + p * (carry + bo)) (ht : t = carry + q * y) (hw : x + 4294967296 * b' = w + t % 4294967296 + bo) : c + p * w + q * (u + p * y) = v + p * x + p * 4294967296 * (t / 4294967296 + b') := by
  have e : x + 4294967296 * (t / 4294967296 + b') = w + bo + t := by omega
  have e1 := congrArg (p * ·) e
  simp only [Nat.mul_add] at e1
  rw [ht] at e1
  rw [ht]
  generalize hk : (carry + q * y) / 4294967296 = k at e1 ⊢
  have e2 : q * (u + p * y) = q * u + p * (q * y) := by rw [Nat.mul_add, Nat.mul_left_comm]
  have e3 : p * 4294967296 * (k + b') = p * (4294967296 * k) + p * (4294967296 * b') := by rw [Nat.mul_assoc, Nat.mul_add, Nat.mul_add]
  simp only [Nat.mul_add] at h e1
  rw [e2, e3]
  omega
theorem add_row {p c u v x y carry s : Nat} (h : c + p * carry = v + u) (hs : s = carry + x + y) : c + p * (s % 4294967296) + p * 4294967296 * (s / 4294967296) = v + p * x + (u + p * y) := by
  have e : s % 4294967296 + 4294967296 * (s / 4294967296) = carry + x + y := by omega
  have e1 := congrArg (p * ·) e
  simp only [Nat.mul_add] at e1
  rw [Nat.mul_assoc]
  omega
/-- The divisor is added back. -/
theorem back_end {X Y c c2 carry R : Nat} (hY : 0 < Y) (hYR : Y < R) (hc : c2 < R) (h1 : c + Y = X % Y + R) (h2 : carry ≤ 1) (h3 : c2 + R * carry = c + Y) : c2 = X % Y := by
  have hm := Nat.mod_lt X hY
  generalize X % Y = r at hm h1 ⊢
  have hcc : carry = 0 ∨ carry = 1 := by omega
  rcases hcc with h | h
  · subst h
    rw [Nat.mul_zero] at h3
    omega
  · subst h
    rw [Nat.mul_one] at h3
    omega
/-- A quotient's word is right, or one too great. -/
theorem word_end {X Y q c R : Nat} (hY : 0 < Y) (h1 : X / Y ≤ q) (h2 : q * Y ≤ X + Y) (hc : c < R) (hXR : X < R) :
    (c + q * Y = X + R * (0 + 0) → q = X / Y ∧ c = X % Y) ∧ (c + q * Y = X + R * (0 + 1) → q - 1 = X / Y ∧ 1 ≤ q ∧ c + Y = X % Y + R) := by
  have hd := Nat.div_add_mod X Y
  have hm := Nat.mod_lt X hY
  rw [Nat.mul_comm] at hd
  generalize X / Y = d at h1 hd ⊢
  generalize X % Y = r at hm hd ⊢
  constructor
  · intro h
    rw [Nat.add_zero, Nat.mul_zero, Nat.add_zero] at h
    have e : q = d := by
      rcases Nat.lt_or_ge d q with h3 | h3
      · have := Nat.mul_le_mul_right Y h3
        rw [Nat.succ_mul] at this
        omega
      · omega
    subst e
    exact ⟨rfl, by omega⟩
  · intro h
    rw [Nat.zero_add, Nat.mul_one] at h
    have h3 : d < q := by
      rcases Nat.lt_or_ge d q with h3 | h3
      · exact h3
      · have := Nat.mul_le_mul_right Y h3
        omega
    have h4 : q ≤ d + 1 := by
      rcases Nat.lt_or_ge (d + 1) q with h4 | h4
      · have := Nat.mul_le_mul_right Y h4
        rw [Nat.succ_mul, Nat.succ_mul] at this
        omega
      · exact h4
    have e : q = d + 1 := by omega
    subst e
    rw [Nat.succ_mul] at h
    exact ⟨by omega, by omega, by omega⟩
end Go.Proofs.YtjncgcnofiaiaaaGreat

/-
  ref01.word: one word of a quotient.
-/
set_option linter.unusedVariables false
set_option linter.unusedSimpArgs false
namespace Go.Proofs.YtjncgcnofiaiaaaGreat
open Go.RowKit
set_option maxRecDepth 20000

def u64 (n : Nat) : V := .c (.int .u64 (n : Int))
theorem val_top2 {l : List Nat} {m : Nat} (hl : l.length = m + 2) : val l = (at0 l (m + 1) * 4294967296 + at0 l m) * 4294967296 ^ m + val (l.take m) := by
  have e := val_all (l := l) (n := m + 2) (by omega)
  rw [val_take_succ, val_take_succ] at e
  rw [← e, Nat.pow_succ]
  grind
theorem val_top3 {l : List Nat} {m : Nat} (hl : l.length = m + 3) : val l = ((at0 l (m + 2) * 4294967296 + at0 l (m + 1)) * 4294967296 + at0 l m) * 4294967296 ^ m + val (l.take m) := by
  have e := val_all (l := l) (n := m + 3) (by omega)
  rw [val_take_succ, val_take_succ, val_take_succ] at e
  rw [← e, Nat.pow_succ, Nat.pow_succ]
  grind
theorem ld_head {s : Option Slot} {size off i : Nat} {l r : List Nat} {el : TypeId} {kd : BK} {K : V → Prop} (h : s = some (.live ⟨(l ++ r).map W, el, kd⟩)) (ho : off = i) (hi : i < l.length) (kk : K (.c (.int .u32 (at0 l i : Nat)))) : ldBox s false size off K := by
  refine ld_word h ho (by simp; omega) ?_
  rw [at0_app hi]
  exact kk
theorem quoN (a b : Nat) (h : a < 18446744073709551616) : arith .quo .u64 (a : Int) (b : Int) = ((a / b : Nat) : Int) := by
  show IntKind.u64.wrap ((a : Int).tdiv b) = _
  rw [← Int.ofNat_tdiv, wrapN]
  exact Nat.lt_of_le_of_lt (Nat.div_le_self _ _) h
theorem subN (a b : Nat) (h : a < 18446744073709551616) (h2 : b ≤ a) : arith .sub .u64 (a : Int) (b : Int) = ((a - b : Nat) : Int) := by
  rw [ar_sub, show (a : Int) - b = ((a - b : Nat) : Int) by omega, wrapN _ (by omega)]
theorem mnN (a : Nat) : (if (4294967295 : Int) < (a : Int) then (4294967295 : Int) else (a : Int)) = ((min a 4294967295 : Nat) : Int) := by
  split <;> omega
theorem u32N (a : Nat) : IntKind.u32.wrap (a : Int) = ((a % 4294967296 : Nat) : Int) := by rw [wrap_u32]; omega
theorem shl32N (a : Nat) (h : a < 4294967296) : IntKind.u64.wrap ((a : Int) * 2 ^ (min (32 : Int).toNat IntKind.u64.bits)) = ((a * 4294967296 : Nat) : Int) := by
  rw [shl32, show (a : Int) * 4294967296 = ((a * 4294967296 : Nat) : Int) by omega, wrapN _ (by omega)]
theorem subI (a b : Nat) (h : a < 9223372036854775808) (h2 : b ≤ a) : arith .sub .i64 (a : Int) (b : Int) = ((a - b : Nat) : Int) := by
  rw [ar_sub, wrap_i64 (by omega) (by omega)]
  omega
theorem addI (a b : Nat) (h : a + b < 9223372036854775808) : arith .add .i64 (a : Int) (b : Int) = ((a + b : Nat) : Int) := by
  rw [ar_add, wrap_i64 (by omega) (by omega)]
  omega
theorem subI1 (a : Nat) (h : a < 9223372036854775808) (h2 : 1 ≤ a) : arith .sub .i64 (a : Int) 1 = ((a - 1 : Nat) : Int) := subI a 1 h h2
theorem subI2 (a : Nat) (h : a < 9223372036854775808) (h2 : 2 ≤ a) : arith .sub .i64 (a : Int) 2 = ((a - 2 : Nat) : Int) := subI a 2 h h2
theorem addI1 (a : Nat) (h : a < 9223372036854775807) : arith .add .i64 (a : Int) 1 = ((a + 1 : Nat) : Int) := addI a 1 (by omega)
theorem subN1 (a : Nat) (h : a < 18446744073709551616) (h2 : 1 ≤ a) : arith .sub .u64 (a : Int) 1 = ((a - 1 : Nat) : Int) := subN a 1 h h2
/-- The estimate, when it is made: not below the quotient, and at most one above. -/
structure Est (X Y q : Nat) : Prop where
  lo : X / Y ≤ q
  hi : q * Y ≤ X + Y
  lt : q < 4294967296
attribute [local irreducible] compare' semH semC qLen qNil qIad qSlc qIdx ldBox ldCells stBox appX awpF awpOpsF awpDF xopF xopDF qval lval seqQ blockQ loopQ bodyF retKF cnd arith IntKind.wrap

set_option maxHeartbeats 4000000 in
theorem ref01_word {H : Hp} {bx by' o k : Nat} {co co' : Option Nat} {pre xs post yl yr : List Nat} {el el' : TypeId} {kd : BK} {K : V → Hp → Prop}
    (hx : H[bx]? = some (.live ⟨(pre ++ xs ++ post).map W, el, .rw⟩)) (hy : H[by']? = some (.live ⟨(yl ++ yr).map W, el', kd⟩)) (hne : bx ≠ by') (ho : o = pre.length) (hk : yl.length = k) (hl : xs.length = k + 1) (h2 : 2 ≤ k) (hkm : k < 2147483648) (ox : OkW xs) (oy : OkW yl) (htop : 1 ≤ at0 yl (k - 1)) (hlt : val xs < val yl * 4294967296)
    (hK : ∀ xs', xs'.length = k + 1 → OkW xs' → val xs' = val xs % val yl → val xs / val yl < 4294967296 → K (.c (.int .u32 ((val xs / val yl : Nat) : Int))) (H.set bx (.live ⟨(pre ++ xs' ++ post).map W, el, .rw⟩))) :
    semH Tryz.prog n_ref01_word [.c (.sl bx o (k + 1) co 1), .c (.sl by' 0 k co' 1), u64 (at0 yl (k - 1)), u64 (at0 yl (k - 2))] H K := by
  subst ho
  have hbx : bx < H.length := lt_of_getElem? hx
  have gt := oy.get (k - 1)
  have gn := oy.get (k - 2)
  have g0 := ox.get k
  have g1 := ox.get (k - 1)
  have g2 := ox.get (k - 2)
  have hP : 0 < 4294967296 ^ (k - 2) := Nat.pow_pos (by decide)
  have hY := val_top2 (l := yl) (m := k - 2) (by omega)
  have hX := val_top3 (l := xs) (m := k - 2) (by omega)
  rw [show k - 2 + 1 = k - 1 by omega] at hY hX
  rw [show k - 2 + 2 = k by omega] at hX
  have hyl := val_lt (oy.take (k - 2))
  have hxl := val_lt (ox.take (k - 2))
  rw [show (yl.take (k - 2)).length = k - 2 by simp; omega] at hyl
  rw [show (xs.take (k - 2)).length = k - 2 by simp; omega] at hxl
  have hY0 : 0 < val yl := by
    rcases Nat.eq_zero_or_pos (val yl) with h | h
    · rw [h] at hlt
      omega
    · exact h
  have hQ : val xs / val yl < 4294967296 := by
    rw [Nat.div_lt_iff_lt_mul hY0, Nat.mul_comm]
    exact hlt
  have hQY : val xs / val yl * val yl ≤ val xs := Nat.div_mul_le_self _ _
  have hst := est_start hP hX g2 hxl hY hQY
  have hR : val xs < 4294967296 ^ (k + 1) := by
    have := val_lt ox
    rwa [hl] at this
  have hYR : val yl < 4294967296 ^ k := by
    have := val_lt oy
    rwa [hk] at this
  have hrn : ∀ q rest, q * at0 yl (k - 1) + rest = at0 xs k * 4294967296 + at0 xs (k - 1) → val xs / val yl ≤ q → q * at0 yl (k - 2) > rest * 4294967296 + at0 xs (k - 2) → val xs / val yl ≤ q - 1 ∧ 1 ≤ q := by
    intro q rest e1 e2 e3
    have h := est_round hP hX hxl hY e1 e3
    have h1 : val xs / val yl < q := (Nat.div_lt_iff_lt_mul hY0).2 h
    exact ⟨Nat.le_sub_one_of_lt h1, Nat.lt_of_le_of_lt (Nat.zero_le _) h1⟩
  have hen : ∀ q rest, q * at0 yl (k - 1) + rest = at0 xs k * 4294967296 + at0 xs (k - 1) → val xs / val yl ≤ q → q < 4294967296 → q * at0 yl (k - 2) ≤ rest * 4294967296 + at0 xs (k - 2) → Est (val xs) (val yl) q :=
    fun q rest e1 e2 e3 e4 => ⟨e2, est_end hP hX hY hyl htop e1 (by omega) e4, e3⟩
  have hov : ∀ q rest, q * at0 yl (k - 1) + rest = at0 xs k * 4294967296 + at0 xs (k - 1) → val xs / val yl ≤ q → q < 4294967296 → 4294967296 ≤ rest → Est (val xs) (val yl) q :=
    fun q rest e1 e2 e3 e4 => ⟨e2, Nat.le_trans (est_over hP hX hY hyl gn e1 e3 e4) (Nat.le_add_right _ _), e3⟩
  clear hX hY hxl hyl
  refine semH_of_awpF ok_ref01_word rfl ?_
  refine go ?_
  refine idx_sl (by rfl) (by rfl) (by omega) (by omega) ?_
  refine go ?_
  refine ld_mid (i := k) hx (by omega) (by omega) ?_
  refine go ?_
  rw [subI1 k (by omega) (by omega)]
  refine idx_sl (by rfl) (by rfl) (by omega) (by omega) ?_
  refine go ?_
  refine ld_mid (i := k - 1) hx (by omega) (by omega) ?_
  refine go ?_
  rw [wrapN _ (by omega : at0 xs k < 18446744073709551616), wrapN _ (by omega : at0 xs (k - 1) < 18446744073709551616), shl32N _ g0, or_words g0 g1]
  refine q_ar (by rfl) (by rfl) (by simp [needs]; omega) ?_
  rw [quoN _ _ (by omega)]
  refine go ?_
  rw [mnN]
  have hq0 : min ((at0 xs k * 4294967296 + at0 xs (k - 1)) / at0 yl (k - 1)) 4294967295 * at0 yl (k - 1) ≤ at0 xs k * 4294967296 + at0 xs (k - 1) := Nat.le_trans (Nat.mul_le_mul_right _ (Nat.min_le_left _ _)) (Nat.div_mul_le_self _ _)
  have hq1 : val xs / val yl ≤ min ((at0 xs k * 4294967296 + at0 xs (k - 1)) / at0 yl (k - 1)) 4294967295 := Nat.le_min.2 ⟨(Nat.le_div_iff_mul_le htop).2 hst, Nat.le_of_lt_succ hQ⟩
  have hq2 := Nat.min_le_right ((at0 xs k * 4294967296 + at0 xs (k - 1)) / at0 yl (k - 1)) 4294967295
  generalize min ((at0 xs k * 4294967296 + at0 xs (k - 1)) / at0 yl (k - 1)) 4294967295 = q0 at hq0 hq1 hq2 ⊢
  rw [mulN _ _ (by omega), subN _ _ (by omega) hq0]
  refine go ?_
  refine f_loop (fun n vs H' => ∃ q rest : Nat, vs = [.c (.sl bx pre.length (k + 1) co 1), .c (.sl by' 0 k co' 1), u64 (at0 yl (k - 1)), u64 (at0 yl (k - 2)), i64 k, u64 q, u64 rest] ∧ H' = H ∧ n = q ∧ q * at0 yl (k - 1) + rest = at0 xs k * 4294967296 + at0 xs (k - 1) ∧ val xs / val yl ≤ q ∧ q < 4294967296) (by rfl) ⟨q0, _, rfl, rfl, rfl, by omega, hq1, by omega⟩ ?_
  rintro n vs H' ⟨q, rest, rfl, rfl, rfl, p1, p2, p3⟩
  refine go ?_
  cases hr : compare' Cm.lss (rest : Int) 4294967296
  · simp [compare'] at hr
    have hE := hov n rest p1 p2 p3 (by omega)
    refine go ?_
    refine f_loop (fun m vs H2 => ∃ (i bo carry : Nat) (cur : List Nat), vs = [.c (.sl bx pre.length (k + 1) co 1), .c (.sl by' 0 k co' 1), i64 k, u64 n, u64 bo, u64 carry, i64 i] ∧ H2 = H'.set bx (.live ⟨(pre ++ cur ++ post).map W, el, .rw⟩) ∧ m = k + 1 - i ∧ i ≤ k + 1 ∧ cur.length = k + 1 ∧ OkW cur ∧ bo ≤ 1 ∧ carry < 4294967296 ∧ (k < i → carry = 0) ∧ val (cur.take i) + n * val (yl.take i) = val (xs.take i) + 4294967296 ^ i * (carry + bo) ∧ ∀ j, i ≤ j → at0 cur j = at0 xs j) (by rfl) ⟨0, 0, 0, xs, rfl, (set_same hx).symm, rfl, by omega, hl, ox, by omega, by omega, by omega, by simp [val], fun _ _ => rfl⟩ ?_
    rintro m vs H2 ⟨i, bo, carry, cur, rfl, rfl, rfl, p2', p3, p4, p5, p6, p7, p7', p8⟩
    have gc := p4.get i
    refine go ?_
    cases hq1 : compare' Cm.leq (i : Int) (k : Int)
    · simp [compare'] at hq1
      have ei : i = k + 1 := by omega
      subst ei
      have ec := p7 (by omega)
      subst ec
      rw [val_all (by omega), val_all (by omega), val_all (by omega)] at p7'
      have hC := val_lt p4
      rw [p3] at hC
      obtain ⟨z1, z2⟩ := word_end (q := n) (c := val cur) hY0 hE.lo hE.hi hC hR
      refine go ?_
      cases hb : compare' Cm.eql (bo : Int) 0
      · simp only [compare', dec_false] at hb
        have eb : bo = 1 := by omega
        subst eb
        obtain ⟨y1, y2, y3⟩ := z2 p7'
        refine go ?_
        refine f_loop (fun m vs H2 => ∃ (i carry : Nat) (c2 : List Nat), vs = [.c (.sl bx pre.length (k + 1) co 1), .c (.sl by' 0 k co' 1), i64 k, u64 n, u64 carry, i64 i] ∧ H2 = H'.set bx (.live ⟨(pre ++ c2 ++ post).map W, el, .rw⟩) ∧ m = k + 1 - i ∧ i ≤ k + 1 ∧ c2.length = k + 1 ∧ OkW c2 ∧ carry ≤ 1 ∧ val (c2.take i) + 4294967296 ^ i * carry = val (cur.take i) + val (yl.take i) ∧ ∀ j, i ≤ j → at0 c2 j = at0 cur j) (by rfl) ⟨0, 0, cur, rfl, rfl, rfl, by omega, p3, p4, by omega, by simp [val], fun _ _ => rfl⟩ ?_
        rintro m vs H2 ⟨i, carry, c2, rfl, rfl, rfl, r2, r3, r4, r5, r6, r8⟩
        have gc2 := r4.get i
        have gy := oy.get i
        refine go ?_
        cases hq2 : compare' Cm.leq (i : Int) (k : Int)
        · simp [compare'] at hq2
          have ei : i = k + 1 := by omega
          subst ei
          rw [val_all (by omega), val_all (by omega), val_all (by omega)] at r6
          have hC2 := val_lt r4
          rw [r3] at hC2
          refine go ?_
          rw [subN1 n (by omega) y2, u32N, y1, Nat.mod_eq_of_lt hQ]
          exact hK c2 r3 r4 (back_end hY0 (Nat.lt_of_lt_of_le hYR (Nat.pow_le_pow_right (by decide) (Nat.le_succ k))) hC2 y3 r5 r6) hQ
        · simp [compare'] at hq2
          refine go ?_
          refine idx_sl (by rfl) (by rfl) (by omega) (by omega) ?_
          refine go ?_
          refine ld_mid (i := i) (get_set hbx) (by omega) (by omega) ?_
          refine go ?_
          rw [wrapN _ (by omega : at0 c2 i < 18446744073709551616), addN _ _ (by omega)]
          cases hq3 : compare' Cm.lss (i : Int) (k : Int)
          · simp [compare'] at hq3
            have ei : i = k := by omega
            subst ei
            refine go ?_
            rw [u32N]
            refine idx_sl (by rfl) (by rfl) (by omega) (by omega) ?_
            refine go ?_
            refine st_mid (i := i) (get_set hbx) (by rfl) (by omega) (by omega) ?_
            rw [List.set_set]
            refine go ?_
            rw [shrN, addI1 i (by omega)]
            refine l_n (by rfl) (by omega) ⟨i + 1, _, c2.set i ((carry + at0 c2 i) % 4294967296), rfl, rfl, rfl, by omega, by simp [r3], r4.set (by omega), by omega, ?_, fun j hj => ?_⟩
            · rw [val_take_set (by omega), val_take_succ yl, val_take_succ cur, Nat.pow_succ, ← r8 i (Nat.le_refl i)]
              exact add_row r6 (by rw [at0_ge (l := yl) (by omega)]; simp)
            · rw [at0_set (by omega)]
              exact r8 j (by omega)
          · simp [compare'] at hq3
            refine go ?_
            refine idx_sl (by rfl) (by rfl) (by omega) (by omega) ?_
            refine go ?_
            refine ld_head (i := i) ((get_set_ne hne).trans hy) (by omega) (by omega) ?_
            refine go ?_
            rw [wrapN _ (by omega : at0 yl i < 18446744073709551616), addN _ _ (by omega)]
            refine go ?_
            rw [u32N]
            refine idx_sl (by rfl) (by rfl) (by omega) (by omega) ?_
            refine go ?_
            refine st_mid (i := i) (get_set hbx) (by rfl) (by omega) (by omega) ?_
            rw [List.set_set]
            refine go ?_
            rw [shrN, addI1 i (by omega)]
            refine l_n (by rfl) (by omega) ⟨i + 1, _, c2.set i ((carry + at0 c2 i + at0 yl i) % 4294967296), rfl, rfl, rfl, by omega, by simp [r3], r4.set (by omega), by omega, ?_, fun j hj => ?_⟩
            · rw [val_take_set (by omega), val_take_succ yl, val_take_succ cur, Nat.pow_succ, ← r8 i (Nat.le_refl i)]
              exact add_row r6 rfl
            · rw [at0_set (by omega)]
              exact r8 j (by omega)
      · simp only [compare', dec_true] at hb
        have eb : bo = 0 := by omega
        subst eb
        obtain ⟨y1, y2⟩ := z1 p7'
        refine go ?_
        rw [u32N, y1, Nat.mod_eq_of_lt hQ]
        exact hK cur p3 p4 y2 hQ
    · simp [compare'] at hq1
      refine go ?_
      cases hq2 : compare' Cm.lss (i : Int) (k : Int)
      · simp [compare'] at hq2
        have ei : i = k := by omega
        subst ei
        refine go ?_
        refine idx_sl (by rfl) (by rfl) (by omega) (by omega) ?_
        refine go ?_
        refine ld_mid (i := i) (get_set hbx) (by omega) (by omega) ?_
        refine go ?_
        rw [wrapN _ (by omega : at0 cur i < 18446744073709551616), u32N, wrapN _ (by omega : carry % 4294967296 < 18446744073709551616)]
        obtain ⟨d, w, b', e1, e2, e3, w1, w2, w3⟩ := sub_u64 (x := at0 cur i) (s := carry % 4294967296) (bo := bo) (p4.get i) (Nat.mod_lt _ (by decide)) p5
        rw [e1]
        refine go ?_
        rw [e2]
        refine idx_sl (by rfl) (by rfl) (by omega) (by omega) ?_
        refine go ?_
        refine st_mid (i := i) (get_set hbx) (by rfl) (by omega) (by omega) ?_
        rw [List.set_set]
        refine go ?_
        rw [e3, shrN, addI1 i (by omega)]
        refine l_n (by rfl) (by omega) ⟨i + 1, b', carry / 4294967296, cur.set i w, rfl, rfl, rfl, by omega, by simp [p3], p4.set w1, w2, by omega, by omega, ?_, fun j hj => ?_⟩
        · rw [val_take_set (by omega), val_take_succ yl, val_take_succ xs, Nat.pow_succ, ← p8 i (Nat.le_refl i)]
          exact sub_row (y := at0 yl i) p7' (by rw [at0_ge (by omega)]; simp) w3
        · rw [at0_set (by omega)]
          exact p8 j (by omega)
      · simp [compare'] at hq2
        have gy := oy.get i
        have hm : n * at0 yl i + carry < 18446744073709551616 := by
          have := Nat.mul_le_mul (Nat.le_of_lt_succ hE.lt) (Nat.le_of_lt_succ gy)
          omega
        refine go ?_
        refine idx_sl (by rfl) (by rfl) (by omega) (by omega) ?_
        refine go ?_
        refine ld_head (i := i) ((get_set_ne hne).trans hy) (by omega) (by omega) ?_
        refine go ?_
        rw [wrapN _ (by omega : at0 yl i < 18446744073709551616), mulN _ _ (by omega), addN _ _ (by omega)]
        refine go ?_
        refine idx_sl (by rfl) (by rfl) (by omega) (by omega) ?_
        refine go ?_
        refine ld_mid (i := i) (get_set hbx) (by omega) (by omega) ?_
        refine go ?_
        rw [wrapN _ (by omega : at0 cur i < 18446744073709551616), u32N, wrapN _ (by omega : (carry + n * at0 yl i) % 4294967296 < 18446744073709551616)]
        obtain ⟨d, w, b', e1, e2, e3, w1, w2, w3⟩ := sub_u64 (x := at0 cur i) (s := (carry + n * at0 yl i) % 4294967296) (bo := bo) (p4.get i) (Nat.mod_lt _ (by decide)) p5
        rw [e1]
        refine go ?_
        rw [e2]
        refine idx_sl (by rfl) (by rfl) (by omega) (by omega) ?_
        refine go ?_
        refine st_mid (i := i) (get_set hbx) (by rfl) (by omega) (by omega) ?_
        rw [List.set_set]
        refine go ?_
        rw [e3, shrN, addI1 i (by omega)]
        refine l_n (by rfl) (by omega) ⟨i + 1, b', (carry + n * at0 yl i) / 4294967296, cur.set i w, rfl, rfl, rfl, by omega, by simp [p3], p4.set w1, w2, by omega, by omega, ?_, fun j hj => ?_⟩
        · rw [val_take_set (by omega), val_take_succ yl, val_take_succ xs, Nat.pow_succ, ← p8 i (Nat.le_refl i)]
          exact sub_row p7' rfl w3
        · rw [at0_set (by omega)]
          exact p8 j (by omega)
  · simp [compare'] at hr
    refine go ?_
    rw [subI2 k (by omega) (by omega)]
    refine idx_sl (by rfl) (by rfl) (by omega) (by omega) ?_
    refine go ?_
    refine ld_mid (i := k - 2) hx (by omega) (by omega) ?_
    refine go ?_
    have hm : n * at0 yl (k - 2) < 18446744073709551616 := by
      have := Nat.mul_le_mul (Nat.le_of_lt_succ p3) (Nat.le_of_lt_succ gn)
      omega
    rw [mulN _ _ hm, wrapN _ (by omega : at0 xs (k - 2) < 18446744073709551616), shl32N _ (by omega), or_words (by omega) g2]
    cases hg : compare' Cm.gtr ((n * at0 yl (k - 2) : Nat) : Int) ((rest * 4294967296 + at0 xs (k - 2) : Nat) : Int)
    · simp only [compare', dec_false] at hg
      have hE := hen n rest p1 p2 p3 (by omega)
      refine go ?_
      refine f_loop (fun m vs H2 => ∃ (i bo carry : Nat) (cur : List Nat), vs = [.c (.sl bx pre.length (k + 1) co 1), .c (.sl by' 0 k co' 1), i64 k, u64 n, u64 bo, u64 carry, i64 i] ∧ H2 = H'.set bx (.live ⟨(pre ++ cur ++ post).map W, el, .rw⟩) ∧ m = k + 1 - i ∧ i ≤ k + 1 ∧ cur.length = k + 1 ∧ OkW cur ∧ bo ≤ 1 ∧ carry < 4294967296 ∧ (k < i → carry = 0) ∧ val (cur.take i) + n * val (yl.take i) = val (xs.take i) + 4294967296 ^ i * (carry + bo) ∧ ∀ j, i ≤ j → at0 cur j = at0 xs j) (by rfl) ⟨0, 0, 0, xs, rfl, (set_same hx).symm, rfl, by omega, hl, ox, by omega, by omega, by omega, by simp [val], fun _ _ => rfl⟩ ?_
      rintro m vs H2 ⟨i, bo, carry, cur, rfl, rfl, rfl, p2', p3, p4, p5, p6, p7, p7', p8⟩
      have gc := p4.get i
      refine go ?_
      cases hq1 : compare' Cm.leq (i : Int) (k : Int)
      · simp [compare'] at hq1
        have ei : i = k + 1 := by omega
        subst ei
        have ec := p7 (by omega)
        subst ec
        rw [val_all (by omega), val_all (by omega), val_all (by omega)] at p7'
        have hC := val_lt p4
        rw [p3] at hC
        obtain ⟨z1, z2⟩ := word_end (q := n) (c := val cur) hY0 hE.lo hE.hi hC hR
        refine go ?_
        cases hb : compare' Cm.eql (bo : Int) 0
        · simp only [compare', dec_false] at hb
          have eb : bo = 1 := by omega
          subst eb
          obtain ⟨y1, y2, y3⟩ := z2 p7'
          refine go ?_
          refine f_loop (fun m vs H2 => ∃ (i carry : Nat) (c2 : List Nat), vs = [.c (.sl bx pre.length (k + 1) co 1), .c (.sl by' 0 k co' 1), i64 k, u64 n, u64 carry, i64 i] ∧ H2 = H'.set bx (.live ⟨(pre ++ c2 ++ post).map W, el, .rw⟩) ∧ m = k + 1 - i ∧ i ≤ k + 1 ∧ c2.length = k + 1 ∧ OkW c2 ∧ carry ≤ 1 ∧ val (c2.take i) + 4294967296 ^ i * carry = val (cur.take i) + val (yl.take i) ∧ ∀ j, i ≤ j → at0 c2 j = at0 cur j) (by rfl) ⟨0, 0, cur, rfl, rfl, rfl, by omega, p3, p4, by omega, by simp [val], fun _ _ => rfl⟩ ?_
          rintro m vs H2 ⟨i, carry, c2, rfl, rfl, rfl, r2, r3, r4, r5, r6, r8⟩
          have gc2 := r4.get i
          have gy := oy.get i
          refine go ?_
          cases hq2 : compare' Cm.leq (i : Int) (k : Int)
          · simp [compare'] at hq2
            have ei : i = k + 1 := by omega
            subst ei
            rw [val_all (by omega), val_all (by omega), val_all (by omega)] at r6
            have hC2 := val_lt r4
            rw [r3] at hC2
            refine go ?_
            rw [subN1 n (by omega) y2, u32N, y1, Nat.mod_eq_of_lt hQ]
            exact hK c2 r3 r4 (back_end hY0 (Nat.lt_of_lt_of_le hYR (Nat.pow_le_pow_right (by decide) (Nat.le_succ k))) hC2 y3 r5 r6) hQ
          · simp [compare'] at hq2
            refine go ?_
            refine idx_sl (by rfl) (by rfl) (by omega) (by omega) ?_
            refine go ?_
            refine ld_mid (i := i) (get_set hbx) (by omega) (by omega) ?_
            refine go ?_
            rw [wrapN _ (by omega : at0 c2 i < 18446744073709551616), addN _ _ (by omega)]
            cases hq3 : compare' Cm.lss (i : Int) (k : Int)
            · simp [compare'] at hq3
              have ei : i = k := by omega
              subst ei
              refine go ?_
              rw [u32N]
              refine idx_sl (by rfl) (by rfl) (by omega) (by omega) ?_
              refine go ?_
              refine st_mid (i := i) (get_set hbx) (by rfl) (by omega) (by omega) ?_
              rw [List.set_set]
              refine go ?_
              rw [shrN, addI1 i (by omega)]
              refine l_n (by rfl) (by omega) ⟨i + 1, _, c2.set i ((carry + at0 c2 i) % 4294967296), rfl, rfl, rfl, by omega, by simp [r3], r4.set (by omega), by omega, ?_, fun j hj => ?_⟩
              · rw [val_take_set (by omega), val_take_succ yl, val_take_succ cur, Nat.pow_succ, ← r8 i (Nat.le_refl i)]
                exact add_row r6 (by rw [at0_ge (l := yl) (by omega)]; simp)
              · rw [at0_set (by omega)]
                exact r8 j (by omega)
            · simp [compare'] at hq3
              refine go ?_
              refine idx_sl (by rfl) (by rfl) (by omega) (by omega) ?_
              refine go ?_
              refine ld_head (i := i) ((get_set_ne hne).trans hy) (by omega) (by omega) ?_
              refine go ?_
              rw [wrapN _ (by omega : at0 yl i < 18446744073709551616), addN _ _ (by omega)]
              refine go ?_
              rw [u32N]
              refine idx_sl (by rfl) (by rfl) (by omega) (by omega) ?_
              refine go ?_
              refine st_mid (i := i) (get_set hbx) (by rfl) (by omega) (by omega) ?_
              rw [List.set_set]
              refine go ?_
              rw [shrN, addI1 i (by omega)]
              refine l_n (by rfl) (by omega) ⟨i + 1, _, c2.set i ((carry + at0 c2 i + at0 yl i) % 4294967296), rfl, rfl, rfl, by omega, by simp [r3], r4.set (by omega), by omega, ?_, fun j hj => ?_⟩
              · rw [val_take_set (by omega), val_take_succ yl, val_take_succ cur, Nat.pow_succ, ← r8 i (Nat.le_refl i)]
                exact add_row r6 rfl
              · rw [at0_set (by omega)]
                exact r8 j (by omega)
        · simp only [compare', dec_true] at hb
          have eb : bo = 0 := by omega
          subst eb
          obtain ⟨y1, y2⟩ := z1 p7'
          refine go ?_
          rw [u32N, y1, Nat.mod_eq_of_lt hQ]
          exact hK cur p3 p4 y2 hQ
      · simp [compare'] at hq1
        refine go ?_
        cases hq2 : compare' Cm.lss (i : Int) (k : Int)
        · simp [compare'] at hq2
          have ei : i = k := by omega
          subst ei
          refine go ?_
          refine idx_sl (by rfl) (by rfl) (by omega) (by omega) ?_
          refine go ?_
          refine ld_mid (i := i) (get_set hbx) (by omega) (by omega) ?_
          refine go ?_
          rw [wrapN _ (by omega : at0 cur i < 18446744073709551616), u32N, wrapN _ (by omega : carry % 4294967296 < 18446744073709551616)]
          obtain ⟨d, w, b', e1, e2, e3, w1, w2, w3⟩ := sub_u64 (x := at0 cur i) (s := carry % 4294967296) (bo := bo) (p4.get i) (Nat.mod_lt _ (by decide)) p5
          rw [e1]
          refine go ?_
          rw [e2]
          refine idx_sl (by rfl) (by rfl) (by omega) (by omega) ?_
          refine go ?_
          refine st_mid (i := i) (get_set hbx) (by rfl) (by omega) (by omega) ?_
          rw [List.set_set]
          refine go ?_
          rw [e3, shrN, addI1 i (by omega)]
          refine l_n (by rfl) (by omega) ⟨i + 1, b', carry / 4294967296, cur.set i w, rfl, rfl, rfl, by omega, by simp [p3], p4.set w1, w2, by omega, by omega, ?_, fun j hj => ?_⟩
          · rw [val_take_set (by omega), val_take_succ yl, val_take_succ xs, Nat.pow_succ, ← p8 i (Nat.le_refl i)]
            exact sub_row (y := at0 yl i) p7' (by rw [at0_ge (by omega)]; simp) w3
          · rw [at0_set (by omega)]
            exact p8 j (by omega)
        · simp [compare'] at hq2
          have gy := oy.get i
          have hm : n * at0 yl i + carry < 18446744073709551616 := by
            have := Nat.mul_le_mul (Nat.le_of_lt_succ hE.lt) (Nat.le_of_lt_succ gy)
            omega
          refine go ?_
          refine idx_sl (by rfl) (by rfl) (by omega) (by omega) ?_
          refine go ?_
          refine ld_head (i := i) ((get_set_ne hne).trans hy) (by omega) (by omega) ?_
          refine go ?_
          rw [wrapN _ (by omega : at0 yl i < 18446744073709551616), mulN _ _ (by omega), addN _ _ (by omega)]
          refine go ?_
          refine idx_sl (by rfl) (by rfl) (by omega) (by omega) ?_
          refine go ?_
          refine ld_mid (i := i) (get_set hbx) (by omega) (by omega) ?_
          refine go ?_
          rw [wrapN _ (by omega : at0 cur i < 18446744073709551616), u32N, wrapN _ (by omega : (carry + n * at0 yl i) % 4294967296 < 18446744073709551616)]
          obtain ⟨d, w, b', e1, e2, e3, w1, w2, w3⟩ := sub_u64 (x := at0 cur i) (s := (carry + n * at0 yl i) % 4294967296) (bo := bo) (p4.get i) (Nat.mod_lt _ (by decide)) p5
          rw [e1]
          refine go ?_
          rw [e2]
          refine idx_sl (by rfl) (by rfl) (by omega) (by omega) ?_
          refine go ?_
          refine st_mid (i := i) (get_set hbx) (by rfl) (by omega) (by omega) ?_
          rw [List.set_set]
          refine go ?_
          rw [e3, shrN, addI1 i (by omega)]
          refine l_n (by rfl) (by omega) ⟨i + 1, b', (carry + n * at0 yl i) / 4294967296, cur.set i w, rfl, rfl, rfl, by omega, by simp [p3], p4.set w1, w2, by omega, by omega, ?_, fun j hj => ?_⟩
          · rw [val_take_set (by omega), val_take_succ yl, val_take_succ xs, Nat.pow_succ, ← p8 i (Nat.le_refl i)]
            exact sub_row p7' rfl w3
          · rw [at0_set (by omega)]
            exact p8 j (by omega)
    · simp only [compare', dec_true] at hg
      obtain ⟨n1, n2⟩ := hrn n rest p1 p2 (by omega)
      refine go ?_
      rw [subN1 n (by omega) n2, addN _ _ (by omega)]
      refine l_n (by rfl) (by omega) ⟨n - 1, _, rfl, rfl, rfl, ?_, n1, by omega⟩
      have := Nat.sub_mul n 1 (at0 yl (k - 1))
      have := Nat.mul_le_mul_right (at0 yl (k - 1)) n2
      omega
end Go.Proofs.YtjncgcnofiaiaaaGreat

/-
  The number laws of long division: one round, the beginning, the end; shifting back.
-/
set_option linter.unusedVariables false
set_option linter.unusedSimpArgs false
namespace Go.Proofs.YtjncgcnofiaiaaaGreat
open Go.RowKit
set_option maxRecDepth 20000

theorem pow31 {n : Nat} (h : n ≤ 31) : 2 ^ n ≤ 2147483648 := by
  have := Nat.pow_le_pow_right (n := 2) (by decide) h
  simpa using this
theorem pow32 {n : Nat} (h : n ≤ 32) : 2 ^ n ≤ 4294967296 := by
  have := Nat.pow_le_pow_right (n := 2) (by decide) h
  simpa using this
theorem val_drop_set {l : List Nat} {i w : Nat} (h : i < l.length) : val ((l.set i w).drop i) = w + 4294967296 * val (l.drop (i + 1)) := by
  have e : (l.set i w).drop i = w :: l.drop (i + 1) := by
    rw [drop_cons (by simpa using h)]
    have e1 : at0 (l.set i w) i = w := by simp [at0, h]
    rw [e1, List.drop_set_of_lt (by omega)]
  rw [e]
  rfl
theorem parts_eq (xs : List Nat) (i k : Nat) : xs.take i ++ (xs.drop i).take (k + 1) ++ xs.drop (i + k + 1) = xs := by
  have e : xs.drop (i + k + 1) = (xs.drop i).drop (k + 1) := by rw [List.drop_drop]; congr 1
  rw [e, List.append_assoc, List.take_append_drop, List.take_append_drop]
theorem parts_round {xs out : List Nat} {i k Y T : Nat} (ox : OkW xs) (hl : i + k + 1 ≤ xs.length) (hY : 0 < Y) (hYk : Y < 4294967296 ^ k) (h1 : val xs + 4294967296 ^ (i + 1) * val (out.drop (i + 1)) * Y = T) (h2 : val (xs.drop (i + 1)) < Y) (hi : i < out.length) :
    val ((xs.drop i).take (k + 1)) < Y * 4294967296 ∧ ∀ seg, seg.length = k + 1 → val seg = val ((xs.drop i).take (k + 1)) % Y →
      val (xs.take i ++ seg ++ xs.drop (i + k + 1)) + 4294967296 ^ i * val ((out.set i (val ((xs.drop i).take (k + 1)) / Y)).drop i) * Y = T ∧ val ((xs.take i ++ seg ++ xs.drop (i + k + 1)).drop i) < Y := by
  have e0 : (xs.drop i).take (k + 1) = at0 xs i :: (xs.drop (i + 1)).take k := by rw [drop_cons (by omega), List.take_succ_cons]
  have e1 : val ((xs.drop i).take (k + 1)) = at0 xs i + 4294967296 * val ((xs.drop (i + 1)).take k) := by rw [e0]; rfl
  have hs := val_split (xs.drop (i + 1)) k
  have e2 : ((xs.drop (i + 1)).take k).length = k := by simp; omega
  have e3 : (xs.drop (i + 1)).drop k = xs.drop (i + k + 1) := by rw [List.drop_drop]; congr 1; omega
  rw [e2, e3] at hs
  have hp0 : val (xs.drop (i + k + 1)) = 0 := by
    rcases Nat.eq_zero_or_pos (val (xs.drop (i + k + 1))) with h | h
    · exact h
    · have := Nat.mul_le_mul_left (4294967296 ^ k) h
      omega
  rw [hp0, Nat.mul_zero, Nat.add_zero] at hs
  have gx := ox.get i
  have hl1 : (xs.take i).length = i := by simp; omega
  have hX : val xs = val (xs.take i) + 4294967296 ^ i * val ((xs.drop i).take (k + 1)) := by
    have h3 := val_split xs i
    rw [hl1] at h3
    have h4 := val_split (xs.drop i) (k + 1)
    have e4 : (xs.drop i).drop (k + 1) = xs.drop (i + k + 1) := by rw [List.drop_drop]; congr 1
    rw [e4, hp0, Nat.mul_zero, Nat.add_zero] at h4
    rw [h3, h4]
  refine ⟨by omega, fun seg hsl hsv => ⟨?_, ?_⟩⟩
  · rw [val_drop_set hi, List.append_assoc, val_append, val_append, hp0, Nat.mul_zero, Nat.add_zero, hl1, hsv]
    have hd := Nat.div_add_mod (val ((xs.drop i).take (k + 1))) Y
    rw [← h1, hX, Nat.pow_succ]
    generalize val ((xs.drop i).take (k + 1)) = S at hd ⊢
    generalize S / Y = q at hd ⊢
    generalize S % Y = r at hd ⊢
    generalize 4294967296 ^ i = p
    generalize val (out.drop (i + 1)) = o
    generalize val (xs.take i) = x0
    subst hd
    grind
  · have e5 : (xs.take i ++ seg ++ xs.drop (i + k + 1)).drop i = seg ++ xs.drop (i + k + 1) := by
      rw [List.append_assoc, List.drop_append]
      simp only [hl1]
      rw [List.drop_of_length_le (by omega), Nat.sub_self]
      rfl
    rw [e5, val_append, hp0, Nat.mul_zero, Nat.add_zero, hsv]
    exact Nat.mod_lt _ hY
theorem parts_end {x o A B n : Nat} (hB : 0 < B) (h1 : x + o * (B * 2 ^ n) = A * 2 ^ n) (h2 : x < B * 2 ^ n) : o = A / B ∧ x = A % B * 2 ^ n := by
  have hp : 0 < 2 ^ n := Nat.pow_pos (by decide)
  generalize 2 ^ n = p at h1 h2 hp ⊢
  have e : o = A * p / (B * p) := by
    rw [← h1, Nat.add_mul_div_right _ _ (Nat.mul_pos hB hp), Nat.div_eq_of_lt h2, Nat.zero_add]
  rw [Nat.mul_div_mul_right _ _ hp] at e
  refine ⟨e, ?_⟩
  have e2 : x = A * p % (B * p) := by
    rw [← h1, Nat.add_mul_mod_self_right, Nat.mod_eq_of_lt h2]
  rw [e2, Nat.mul_mod_mul_right]
/-- The length of a shifted divisor, trimmed, is what it was; its top word is great. -/
theorem shifted_len {b yo : List Nat} {n k : Nat} (nb : Norm b) (hb : b ≠ []) (h1 : 2147483648 ≤ at0 b (b.length - 1) * 2 ^ n) (h2 : at0 b (b.length - 1) * 2 ^ n < 4294967296) (oy : OkW yo) (hv : val yo = val b * 2 ^ n) (hk : k ≤ yo.length) (ht : val (yo.take k) = val yo) (hz : k ≠ 0 → at0 yo (k - 1) ≠ 0) :
    k = b.length ∧ 2147483648 * 4294967296 ^ (b.length - 1) ≤ val (yo.take k) ∧ val (yo.take k) < 4294967296 ^ k := by
  have hl : 0 < b.length := List.length_pos_iff.2 hb
  have e := val_take_succ b (b.length - 1)
  rw [show b.length - 1 + 1 = b.length by omega, val_all (Nat.le_refl _)] at e
  have hlo := val_lt (nb.1.take (b.length - 1))
  rw [show (b.take (b.length - 1)).length = b.length - 1 by simp] at hlo
  have e2 : val (yo.take k) = val (b.take (b.length - 1)) * 2 ^ n + 4294967296 ^ (b.length - 1) * (at0 b (b.length - 1) * 2 ^ n) := by
    rw [ht, hv, e, Nat.add_mul, Nat.mul_assoc]
  have ge : 4294967296 ^ (b.length - 1) * 2147483648 ≤ 4294967296 ^ (b.length - 1) * (at0 b (b.length - 1) * 2 ^ n) := Nat.mul_le_mul_left _ h1
  have lt : val (yo.take k) < 4294967296 ^ b.length := by
    have hp : 0 < 2 ^ n := Nat.pow_pos (by decide)
    have hd : at0 b (b.length - 1) * 2 ^ n + 2 ^ n ≤ 4294967296 := by
      have hn : n ≤ 32 := by
        rcases Nat.lt_or_ge 32 n with h | h
        · have h4 : 2 ^ 33 ≤ 2 ^ n := Nat.pow_le_pow_right (by decide) h
          have h5 : 1 ≤ at0 b (b.length - 1) := by
            rcases Nat.eq_zero_or_pos (at0 b (b.length - 1)) with h6 | h6
            · rw [h6] at h1
              omega
            · exact h6
          have := Nat.mul_le_mul h5 h4
          omega
        · exact h
      have hB : 4294967296 = 2 ^ (32 - n) * 2 ^ n := by rw [← Nat.pow_add, show 32 - n + n = 32 by omega]
      have h3 : at0 b (b.length - 1) < 2 ^ (32 - n) := by
        rw [hB] at h2
        exact Nat.lt_of_mul_lt_mul_right h2
      have h4 := Nat.mul_le_mul_right (2 ^ n) h3
      rw [← hB, Nat.succ_mul] at h4
      exact h4
    have h3 : val (b.take (b.length - 1)) * 2 ^ n < 4294967296 ^ (b.length - 1) * 2 ^ n := Nat.mul_lt_mul_of_pos_right hlo hp
    have h5 := Nat.mul_le_mul_left (4294967296 ^ (b.length - 1)) hd
    rw [Nat.mul_add] at h5
    have h6 : 4294967296 ^ (b.length - 1 + 1) = 4294967296 ^ (b.length - 1) * 4294967296 := Nat.pow_succ ..
    rw [show b.length - 1 + 1 = b.length by omega] at h6
    omega
  have hno : Norm (yo.take k) := ⟨oy.take k, fun hne => by
    have h0 : k ≠ 0 := fun e => hne (by simp [e])
    have el : (yo.take k).length = k := by simp; omega
    rw [el]
    have : at0 (yo.take k) (k - 1) = at0 yo (k - 1) := by
      unfold at0
      rw [List.getD_eq_getElem?_getD, List.getD_eq_getElem?_getD, List.getElem?_take_of_lt (by omega)]
    rw [this]
    exact hz h0⟩
  have el : (yo.take k).length = k := by simp; omega
  have hk1 : k ≤ b.length := by
    have := norm_len hno lt
    omega
  have hge : 4294967296 ^ (b.length - 1) ≤ val (yo.take k) := by
    have h6 : 0 < 4294967296 ^ (b.length - 1) := Nat.pow_pos (by decide)
    omega
  have hk2 : b.length - 1 < k := by
    have h7 := val_lt (oy.take k)
    rw [el] at h7
    exact (Nat.pow_lt_pow_iff_right (by decide)).1 (Nat.lt_of_le_of_lt hge h7)
  have ek : k = b.length := by omega
  refine ⟨ek, ?_, ?_⟩
  · rw [Nat.mul_comm]
    omega
  · rw [ek]
    rw [ek] at lt
    exact lt
theorem parts_start {a xs : List Nat} {n k m Y : Nat} (oa : OkW a) (hn : n ≤ 31) (hk : 1 ≤ k) (hm : m + k = a.length + 1) (hl : xs.length = a.length + 1) (hv : val xs = val a * 2 ^ n) (hY : 2147483648 * 4294967296 ^ (k - 1) ≤ Y) : val (xs.drop m) < Y := by
  have hs := val_split xs m
  rw [show (xs.take m).length = m by simp; omega, hv] at hs
  have ha := val_lt oa
  have h31 : 2 ^ n ≤ 2147483648 := pow31 hn
  have h1 : val a * 2 ^ n < 4294967296 ^ a.length * 2147483648 := Nat.lt_of_le_of_lt (Nat.mul_le_mul_left _ h31) (Nat.mul_lt_mul_of_pos_right ha (by decide))
  have e : 4294967296 ^ a.length = 4294967296 ^ m * 4294967296 ^ (k - 1) := by rw [← Nat.pow_add, show m + (k - 1) = a.length by omega]
  rw [e, Nat.mul_assoc, Nat.mul_comm _ 2147483648] at h1
  have h2 := Nat.mul_le_mul_left (4294967296 ^ m) hY
  have h3 : 4294967296 ^ m * val (xs.drop m) < 4294967296 ^ m * Y := by omega
  exact Nat.lt_of_mul_lt_mul_left h3

theorem or_u32' {lo m s : Nat} (hs : s ≤ 32) (hlo : lo < 2 ^ s) (hm : m * 2 ^ s < 4294967296) : arith .or .u32 (lo : Int) ((m * 2 ^ s : Nat) : Int) = ((lo + m * 2 ^ s : Nat) : Int) ∧ lo + m * 2 ^ s < 4294967296 := by
  have h32 : 2 ^ s ≤ 4294967296 := pow32 hs
  have hsum : lo + m * 2 ^ s < 4294967296 := by
    have e : lo + m * 2 ^ s = (m <<< s) ||| lo := by
      rw [← Nat.shiftLeft_add_eq_or_of_lt hlo, Nat.shiftLeft_eq]
      omega
    rw [e]
    exact Nat.or_lt_two_pow (n := 32) (by rw [Nat.shiftLeft_eq]; exact hm) (by omega)
  refine ⟨?_, hsum⟩
  generalize hp : m * 2 ^ s = p at hm hsum
  have e : (BitVec.ofInt 32 (lo : Int) ||| BitVec.ofInt 32 (p : Int)).toNat = lo + p := by
    rw [BitVec.toNat_or, BitVec.toNat_ofInt, BitVec.toNat_ofInt]
    have e1 : ((lo : Int) % ((2 ^ 32 : Nat) : Int)).toNat = lo := by omega
    have e2 : ((p : Int) % ((2 ^ 32 : Nat) : Int)).toNat = p := by omega
    rw [e1, e2, Nat.or_comm, ← hp, ← Nat.shiftLeft_eq, ← Nat.shiftLeft_add_eq_or_of_lt hlo]
    omega
  show IntKind.u32.wrap ((BitVec.ofInt 32 (lo : Int) ||| BitVec.ofInt 32 (p : Int)).toNat : Int) = _
  rw [e, wrap_u32]
  omega
/-- A word of the amount shifted back. -/
theorem back_word {x y n : Nat} (hn : n ≤ 31) (hx : x < 4294967296) (hy : y < 4294967296) : ∃ m, y * 2 ^ (32 - n) % 4294967296 = m * 2 ^ (32 - n) ∧ x / 2 ^ n < 2 ^ (32 - n) ∧ y * 2 ^ (32 - n) < 18446744073709551616 * 2 ∧ m * 2 ^ (32 - n) < 4294967296 ∧ 2 ^ n * (x / 2 ^ n + m * 2 ^ (32 - n)) + x % 2 ^ n = x + 4294967296 * (y % 2 ^ n) := by
  have hB : 4294967296 = 2 ^ n * 2 ^ (32 - n) := by rw [← Nat.pow_add, show n + (32 - n) = 32 by omega]
  have hp : 0 < 2 ^ n := Nat.pow_pos (by decide)
  have hq : 0 < 2 ^ (32 - n) := Nat.pow_pos (by decide)
  have h32 : 2 ^ (32 - n) ≤ 4294967296 := pow32 (by omega)
  refine ⟨y % 2 ^ n, ?_, ?_, ?_, ?_, ?_⟩
  · rw [hB, Nat.mul_mod_mul_right]
  · rw [Nat.div_lt_iff_lt_mul hp, Nat.mul_comm, ← hB]
    exact hx
  · have := Nat.mul_le_mul (Nat.le_of_lt hy) h32
    omega
  · have := Nat.mul_lt_mul_of_pos_right (Nat.mod_lt y hp) hq
    rwa [← hB] at this
  · have hd := Nat.div_add_mod x (2 ^ n)
    have e : 2 ^ n * (y % 2 ^ n * 2 ^ (32 - n)) = 4294967296 * (y % 2 ^ n) := by
      rw [hB]
      grind
    rw [Nat.mul_add, e]
    omega
theorem back_row {p q c v x y w : Nat} (h : q * c = v + p * (x % q)) (hw : q * w + x % q = x + 4294967296 * (y % q)) : q * (c + p * w) = v + p * x + p * 4294967296 * (y % q) := by
  have e : q * (p * w) + p * (x % q) = p * x + p * 4294967296 * (y % q) := by
    have := congrArg (p * ·) hw
    grind
  rw [Nat.mul_add, h]
  omega
theorem back_start {t : List Nat} {n r : Nat} (hn : n ≤ 32) (h : val t = r * 2 ^ n) : at0 t 0 % 2 ^ n = 0 := by
  cases t with
  | nil => simp [at0]
  | cons x l =>
    have e : val (x :: l) = x + 4294967296 * val l := rfl
    have hB : 4294967296 = 2 ^ (32 - n) * 2 ^ n := by rw [← Nat.pow_add, show 32 - n + n = 32 by omega]
    have e2 : at0 (x :: l) 0 = x := by simp [at0]
    rw [e2]
    rw [e, hB] at h
    have e3 : x + 2 ^ (32 - n) * val l * 2 ^ n = r * 2 ^ n := by rw [← h]; grind
    have := congrArg (· % 2 ^ n) e3
    simp only [Nat.add_mul_mod_self_right, Nat.mul_mod_left] at this
    exact this
end Go.Proofs.YtjncgcnofiaiaaaGreat

/-
  ref01.parts: quotient and rest of two amounts.
-/
set_option linter.unusedVariables false
set_option linter.unusedSimpArgs false
namespace Go.Proofs.YtjncgcnofiaiaaaGreat
open Go.RowKit
set_option maxRecDepth 20000

def PartsK (A B : Nat) (u : V) : Prop := ∃ c l d m, u = .tup [.c c, .c d] ∧ Wd c l ∧ Norm l ∧ val l = A / B ∧ Wd d m ∧ Norm m ∧ val m = A % B
theorem PartsK.fz {A B : Nat} {c d : C} {l m : List Nat} {H : Hp} (h1 : Wd c l) (h2 : Norm l) (h3 : val l = A / B) (h4 : Wd d m) (h5 : Norm m) (h6 : val m = A % B) : ∃ e, FzV H (.tup [.c c, .c d]) e ∧ PartsK A B e :=
  ⟨_, .tup (.cons (.c (.hf h1.hf)) (.cons (.c (.hf h4.hf)) .nil)), c, l, d, m, rfl, h1, h2, h3, h4, h5, h6⟩
theorem remN (a b : Nat) : arith .rem .u64 (a : Int) (b : Int) = ((a % b : Nat) : Int) := by
  show (a : Int).tmod b = _
  exact (Int.ofNat_tmod a b).symm
theorem norm_of {l m : List Nat} (h : OkW l) (hp : m <+: l) (ht : m ≠ [] → at0 m (m.length - 1) ≠ 0) : Norm m := ⟨fun x hx => h x (hp.subset hx), ht⟩
/-- Division by one word. -/
theorem short_round {a out : List Nat} {j b rest : Nat} (oa : OkW a) (hb : 0 < b) (hbB : b < 4294967296) (hr : rest < b) (hja : j < a.length) (hjo : j < out.length) (h : val (a.drop (j + 1)) = val (out.drop (j + 1)) * b + rest) :
    (rest * 4294967296 + at0 a j) / b < 4294967296 ∧ val (a.drop j) = val ((out.set j ((rest * 4294967296 + at0 a j) / b)).drop j) * b + (rest * 4294967296 + at0 a j) % b ∧ (rest * 4294967296 + at0 a j) % b < b := by
  have ga := oa.get j
  refine ⟨?_, ?_, Nat.mod_lt _ hb⟩
  · rw [Nat.div_lt_iff_lt_mul hb]
    have := Nat.mul_le_mul_right 4294967296 hr
    rw [Nat.succ_mul, Nat.mul_comm b] at this
    omega
  · rw [val_drop_set hjo, drop_cons hja]
    have hd := Nat.div_add_mod (rest * 4294967296 + at0 a j) b
    show at0 a j + 4294967296 * val (a.drop (j + 1)) = _
    rw [h]
    generalize (rest * 4294967296 + at0 a j) / b = q at hd ⊢
    generalize (rest * 4294967296 + at0 a j) % b = r at hd ⊢
    generalize val (out.drop (j + 1)) = o
    grind
attribute [local irreducible] compare' semH semC qLen qNil qIad qSlc qIdx ldBox ldCells stBox appX awpF awpOpsF awpDF xopF xopDF qval lval seqQ blockQ loopQ bodyF retKF cnd arith IntKind.wrap

theorem ref01_parts_short {c d : C} {a : List Nat} {b : Nat} (hc : Wd c a) (hd : Wd d [b]) (na : Norm a) (nb : Norm [b]) (hl : a.length < 1073741824) (hv : ¬ val a < val [b]) : semC Tryz.prog n_ref01_parts [.c c, .c d] (PartsK (val a) (val [b])) := by
  refine semC_of_awpF ok_ref01_parts rfl (show HFVs [.c c, .c d] from ⟨hc.hf, hd.hf, trivial⟩) ?_
  have hb0 : b ≠ 0 := by simpa [at0] using nb.2 (by simp)
  have hbB : b < 4294967296 := nb.1 b (by simp)
  have hL : [b].length = 1 := rfl
  have e0 : val [b] = b := by simp [val]
  rw [e0] at hv ⊢
  have la : 1 ≤ a.length := by
    rcases Nat.eq_zero_or_pos a.length with h | h
    · have : a = [] := List.length_eq_zero_iff.1 h
      subst this
      simp [val] at hv
      omega
    · exact h
  refine go ?_
  refine semH_of_semC (ref01_order hc hd na.1 nb.1 (by omega)) (fun u hu => ?_)
  obtain ⟨r, rfl, r1, r2, r3⟩ := hu
  refine go ?_
  cases hq : compare' Cm.lss r 0
  · simp [compare'] at hq
    refine go ?_
    refine c_t (by simp [compare']) ?_
    refine go ?_
    refine x_mkSl (by rfl) (by rfl) ⟨by omega, by omega, by omega, by omega⟩ ?_
    rw [Int.toNat_natCast, zeros]
    refine go ?_
    rw [subI1 a.length (by omega) la]
    refine f_loop (fun n vs H => ∃ (j rest : Nat) (out : List Nat), vs = [.c c, .c d, .c (.sl 0 0 a.length (some a.length) 1), u64 rest, i64 ((j : Int) - 1)] ∧ H = [.live ⟨out.map W, T_uint32, .rw⟩] ∧ n = j ∧ j ≤ a.length ∧ out.length = a.length ∧ OkW out ∧ rest < b ∧ val (a.drop j) = val (out.drop j) * b + rest) (by rfl) ⟨a.length, 0, _, ?_, rfl, rfl, Nat.le_refl _, by simp, fun x hx => by simp at hx; omega, by omega, by simp [val]⟩ ?_
    · rw [show ((a.length - 1 : Nat) : Int) = (a.length : Int) - 1 by omega]
      rfl
    rintro n vs H ⟨j, rest, out, rfl, rfl, rfl, j1, j2, j3, j4, j5⟩
    refine go ?_
    cases hq2 : compare' Cm.geq ((n : Int) - 1) 0
    · simp [compare'] at hq2
      have ej : n = 0 := by omega
      subst ej
      rw [List.drop_zero, List.drop_zero] at j5
      refine go ?_
      refine semH_of_semC_close [0] (.cons (.c (fz_words out (by rfl) rfl (by simp) j2.symm (by rw [← j2]; exact List.take_of_length_le (by simp)))) .nil) (ref01_trim (.imm out) (by omega)) (fun u hu => ?_)
      obtain ⟨c1, l1, rfl, w1, p1, v1, t1⟩ := hu
      refine go ?_
      rw [u32N, Nat.mod_eq_of_lt (by omega : rest < 4294967296)]
      refine semH_of_semC_close [1] (.cons (.c (fz_words [rest] (by rfl) rfl (by simp) rfl rfl)) .nil) (ref01_trim (.imm [rest]) (by simp)) (fun u hu => ?_)
      obtain ⟨c2, l2, rfl, w2, p2, v2, t2⟩ := hu
      refine go ?_
      have hb1 : 0 < b := by omega
      refine PartsK.fz w1 (norm_of j3 p1 t1) ?_ w2 (norm_of (fun x hx => by simp at hx; omega) p2 t2) ?_
      · rw [v1, j5, Nat.mul_comm, Nat.mul_add_div hb1, Nat.div_eq_of_lt j4, Nat.add_zero]
      · rw [v2, j5, Nat.mul_comm, Nat.mul_add_mod, Nat.mod_eq_of_lt j4]
        simp [val]
    · simp [compare'] at hq2
      obtain ⟨i, rfl⟩ : ∃ i, n = i + 1 := ⟨n - 1, by omega⟩
      rw [show ((i + 1 : Nat) : Int) - 1 = (i : Int) by omega]
      have ga := na.1.get i
      obtain ⟨s1, s2, s3⟩ := short_round (j := i) na.1 (by omega) hbB j4 (by omega) (by omega) j5
      refine go ?_
      rw [Int.toNat_natCast, wrapN _ (by omega : at0 a i < 18446744073709551616), shl32N _ (by omega), or_words (by omega) ga]
      refine go ?_
      rw [show at0 [b] (0 : Int).toNat = b from rfl, wrapN _ (by omega : b < 18446744073709551616)]
      refine q_ar (by rfl) (by rfl) (by simp [needs]; omega) ?_
      rw [quoN _ _ (by omega)]
      refine go ?_
      rw [u32N, Nat.mod_eq_of_lt s1]
      refine idx_sl (by rfl) (by rfl) (by omega) (by omega) ?_
      refine go ?_
      refine st_word (k := i) (by rfl) (by rfl) (by omega) (by omega) ?_
      refine go ?_
      rw [show at0 [b] (0 : Int).toNat = b from rfl, wrapN _ (by omega : b < 18446744073709551616)]
      refine q_ar (by rfl) (by rfl) (by simp [needs]; omega) ?_
      rw [remN]
      refine go ?_
      refine l_n (by rfl) (by omega) ⟨i, _, _, ?_, rfl, rfl, by omega, by simp [j2], j3.set s1, s3, s2⟩
      rw [show arith .sub .i64 ((i : Nat) : Int) 1 = (i : Int) - 1 by rw [ar_sub, wrap_i64 (by omega) (by omega)]]
      rfl
  · simp [compare'] at hq
    exfalso
    apply hv
    rcases Nat.lt_trichotomy a.length [b].length with h | h | h
    · omega
    · have := r3 h
      rw [this] at hq
      unfold sgn at hq
      split at hq
      · rename_i h
        rw [e0] at h
        omega
      · split at hq <;> omega
    · have := r2 h
      omega
end Go.Proofs.YtjncgcnofiaiaaaGreat

/-
  ref01.parts with a divisor of two words or more; the whole contract; divisor.
-/
set_option linter.unusedVariables false
set_option linter.unusedSimpArgs false
namespace Go.Proofs.YtjncgcnofiaiaaaGreat
open Go.RowKit
set_option maxRecDepth 20000

theorem at0_take {l : List Nat} {i k : Nat} (h : i < k) : at0 (l.take k) i = at0 l i := by
  unfold at0
  rw [List.getD_eq_getElem?_getD, List.getD_eq_getElem?_getD, List.getElem?_take_of_lt h]
theorem map_take {l : List Nat} {k : Nat} : (l.map W).take k = (l.take k).map W := List.map_take.symm
theorem nn {n : Nat} (h : n ≤ 31) : IntKind.u64.wrap (n : Int) = (n : Int) := wrapN _ (by omega)
theorem shr_back {x n : Nat} (hn : n ≤ 31) : ((x : Nat) : Int).fdiv (2 ^ (min ((n : Nat) : Int).toNat IntKind.u32.bits)) = ((x / 2 ^ n : Nat) : Int) := by
  rw [Int.toNat_natCast, show min n IntKind.u32.bits = n from Nat.min_eq_left (by show n ≤ 32; omega), Int.fdiv_eq_ediv_of_nonneg _ (by exact_mod_cast Nat.zero_le (2 ^ n))]
  simp
theorem shl_back {y n m : Nat} (hn : n ≤ 31) (hy : y < 4294967296) (hm : y * 2 ^ (32 - n) % 4294967296 = m * 2 ^ (32 - n)) : IntKind.u32.wrap (IntKind.u64.wrap (((y : Nat) : Int) * 2 ^ (min (((32 - n : Nat) : Nat) : Int).toNat IntKind.u64.bits))) = ((m * 2 ^ (32 - n) : Nat) : Int) := by
  rw [Int.toNat_natCast, show min (32 - n) IntKind.u64.bits = 32 - n from Nat.min_eq_left (by show 32 - n ≤ 64; omega), show ((y : Nat) : Int) * 2 ^ (32 - n) = ((y * 2 ^ (32 - n) : Nat) : Int) by simp, ← hm, wrap_u32, wrap_u64]
  generalize y * 2 ^ (32 - n) = t
  omega
attribute [local irreducible] compare' semH semC qLen qNil qIad qSlc qIdx ldBox ldCells stBox appX awpF awpOpsF awpDF xopF xopDF qval lval seqQ blockQ loopQ bodyF retKF cnd arith IntKind.wrap

set_option maxHeartbeats 4000000 in
theorem ref01_parts_long {c d : C} {a b : List Nat} (hc : Wd c a) (hd : Wd d b) (na : Norm a) (nb : Norm b) (h2 : 2 ≤ b.length) (hl : a.length < 1073741824) (hv : ¬ val a < val b) : semC Tryz.prog n_ref01_parts [.c c, .c d] (PartsK (val a) (val b)) := by
  refine semC_of_awpF ok_ref01_parts rfl (show HFVs [.c c, .c d] from ⟨hc.hf, hd.hf, trivial⟩) ?_
  have hb0 : b ≠ [] := fun e => by rw [e] at h2; simp at h2
  have hab : b.length ≤ a.length := by
    rcases Nat.lt_or_ge a.length b.length with h | h
    · exact absurd (norm_lt na nb h) hv
    · exact h
  have hvb := val_pos nb hb0
  refine go ?_
  refine semH_of_semC (ref01_order hc hd na.1 nb.1 (by omega)) (fun u hu => ?_)
  obtain ⟨r, rfl, r1, r2, r3⟩ := hu
  have hr : 0 ≤ r := by
    rcases Nat.lt_trichotomy a.length b.length with h | h | h
    · omega
    · rw [r3 h]
      unfold sgn
      split
      · omega
      · split <;> omega
    · rw [r2 h]
      decide
  clear r1 r2 r3
  refine go ?_
  cases hq : compare' Cm.lss r 0
  case true =>
    simp [compare'] at hq
    omega
  simp [compare'] at hq
  refine go ?_
  cases hq1 : compare' Cm.eql (b.length : Int) 1
  case true =>
    simp [compare'] at hq1
    omega
  simp only [compare', dec_false] at hq1
  refine go ?_
  rw [subI1 b.length (by omega) (by omega)]
  refine go ?_
  rw [Int.toNat_natCast]
  have gtop := nb.2 hb0
  have gb := nb.1.get (b.length - 1)
  refine semH_of_semC (bits_LeadingZeros32 gb (by omega)) (fun u hu => ?_)
  obtain ⟨n, rfl, n1, n2, n3⟩ := hu
  refine go ?_
  rw [nn n1]
  refine ref01_shifted hc na.1 n1 (by omega) _ (fun xs x1 x2 x3 => ?_)
  refine go ?_
  refine ref01_shifted hd nb.1 n1 (by omega) _ (fun yo y1 y2 y3 => ?_)
  refine go ?_
  rw [← y1]
  refine ref01_trim_box (out := yo) (by rfl) (by omega) (fun k co' k1 k2 k3 => ?_)
  obtain ⟨s1, s2, s3⟩ := shifted_len nb hb0 n2 n3 y2 y3 k1 k2 k3
  have hst : val (xs.drop (a.length + 1 - k)) < val (yo.take k) := parts_start (k := k) na.1 n1 (by omega) (by omega) x1 x3 (by rw [s1] at s2 ⊢; exact s2)
  have hY : val (yo.take k) = val b * 2 ^ n := k2.trans y3
  have hY0 : 0 < val (yo.take k) := Nat.lt_of_le_of_lt (Nat.zero_le _) hst
  have lk : (yo.take k).length = k := by simp; omega
  have oyk := y2.take k
  have gt := oyk.get (k - 1)
  have gn := oyk.get (k - 2)
  have htop : 1 ≤ at0 (yo.take k) (k - 1) := by
    rw [at0_take (by omega)]
    have := k3 (by omega)
    omega
  have hyo : yo.take k ++ yo.drop k = yo := List.take_append_drop k yo
  generalize yo.drop k = yr at hyo
  generalize yo.take k = yl at s2 s3 hst hY hY0 lk oyk gt gn htop hyo
  subst hyo
  clear k2 k3 y2 y3 s2 y1 k1
  refine go ?_
  rw [subI (a.length + 1) k (by omega) (by omega)]
  refine x_mkSl (by rfl) (by rfl) ⟨by omega, by omega, by omega, by omega⟩ ?_
  rw [Int.toNat_natCast, zeros]
  refine go ?_
  rw [subI1 k (by omega) (by omega)]
  refine idx_sl (by rfl) (by rfl) (by omega) (by omega) ?_
  refine go ?_
  refine ld_head (i := k - 1) (by rfl) (by omega) (by omega) ?_
  refine go ?_
  rw [wrapN _ (by omega : at0 yl (k - 1) < 18446744073709551616), subI2 k (by omega) (by omega)]
  refine idx_sl (by rfl) (by rfl) (by omega) (by omega) ?_
  refine go ?_
  refine ld_head (i := k - 2) (by rfl) (by omega) (by omega) ?_
  refine go ?_
  rw [wrapN _ (by omega : at0 yl (k - 2) < 18446744073709551616), subI1 (a.length + 1 - k) (by omega) (by omega)]
  obtain ⟨m, hm⟩ : ∃ m, a.length + 1 - k = m + 1 := ⟨a.length - k, by omega⟩
  rw [hm] at hst ⊢
  refine f_loop (fun z vs H => ∃ (j : Nat) (xc out : List Nat), vs = [u64 n, .c (.sl 0 0 (a.length + 1) (some (a.length + 1)) 1), .c (.sl 1 0 k co' 1), .c (.sl 2 0 (m + 1) (some (m + 1)) 1), u64 (at0 yl (k - 1)), u64 (at0 yl (k - 2)), i64 ((j : Int) - 1)] ∧ H = [.live ⟨xc.map W, T_uint32, .rw⟩, .live ⟨(yl ++ yr).map W, T_uint32, .rw⟩, .live ⟨out.map W, T_uint32, .rw⟩] ∧ z = j ∧ j ≤ m + 1 ∧ xc.length = a.length + 1 ∧ OkW xc ∧ out.length = m + 1 ∧ OkW out ∧ val xc + 4294967296 ^ j * val (out.drop j) * val yl = val a * 2 ^ n ∧ val (xc.drop j) < val yl) (by rfl) ⟨m + 1, xs, _, ?_, rfl, rfl, Nat.le_refl _, x1, x2, by simp, fun x hx => by simp at hx; omega, ?_, hst⟩ ?_
  · rw [show ((m + 1 - 1 : Nat) : Int) = ((m + 1 : Nat) : Int) - 1 by omega]
    rfl
  · rw [List.drop_of_length_le (by simp), x3]
    simp [val]
  clear hst x3 x2 x1 xs
  rintro z vs H ⟨j, xc, out, rfl, rfl, rfl, j1, j2, j3, j4, j5, j6, j7⟩
  refine go ?_
  cases hq2 : compare' Cm.geq ((z : Int) - 1) 0
  case true =>
    simp [compare'] at hq2
    obtain ⟨i, rfl⟩ : ∃ i, z = i + 1 := ⟨z - 1, by omega⟩
    rw [show ((i + 1 : Nat) : Int) - 1 = (i : Int) by omega]
    obtain ⟨q1, q2⟩ := parts_round (i := i) (k := k) (out := out) j3 (by omega) hY0 s3 j6 j7 (by omega)
    have hpx := parts_eq xc i k
    have lseg : ((xc.drop i).take (k + 1)).length = k + 1 := by simp; omega
    have lpre : (xc.take i).length = i := by simp; omega
    have oseg := (j3.drop i).take (k + 1)
    refine go ?_
    rw [addI i k (by omega), addI1 (i + k) (by omega)]
    refine slc_sl (by rfl) (by rfl) (by rfl) (by omega) (by omega) (by omega) ?_
    refine go ?_
    rw [Int.toNat_natCast, Int.toNat_natCast, show i + k + 1 - i = k + 1 by omega]
    refine ref01_word (H := [.live ⟨xc.map W, T_uint32, .rw⟩, .live ⟨(yl ++ yr).map W, T_uint32, .rw⟩, .live ⟨out.map W, T_uint32, .rw⟩]) (pre := xc.take i) (xs := (xc.drop i).take (k + 1)) (post := xc.drop (i + k + 1)) (yl := yl) (by rw [hpx]; rfl) (by rfl) (by decide) (by omega) lk lseg (by omega) (by omega) oseg oyk htop q1 (fun seg g1 g2 g3 g4 => ?_)
    obtain ⟨q3, q4⟩ := q2 seg g1 g3
    refine go ?_
    refine idx_sl (by rfl) (by rfl) (by omega) (by omega) ?_
    refine go ?_
    refine st_word (k := i) (by rfl) (by rfl) (by omega) (by omega) ?_
    refine go ?_
    refine l_n (by rfl) (by omega) ⟨i, xc.take i ++ seg ++ xc.drop (i + k + 1), _, ?_, rfl, rfl, by omega, ?_, ?_, by simp [j4], j5.set g4, q3, q4⟩
    · rw [show arith .sub .i64 ((i : Nat) : Int) 1 = (i : Int) - 1 by rw [ar_sub, wrap_i64 (by omega) (by omega)]]
      rfl
    · simp
      omega
    · intro x hx
      rw [List.append_assoc] at hx
      rcases List.mem_append.1 hx with h | h
      · exact j3 x (List.mem_of_mem_take h)
      · rcases List.mem_append.1 h with h | h
        · exact g2 x h
        · exact j3 x (List.mem_of_mem_drop h)
  simp [compare'] at hq2
  have ej : z = 0 := by omega
  subst ej
  rw [List.drop_zero] at j6 j7
  rw [Nat.pow_zero, Nat.one_mul] at j6
  rw [hY] at j6 j7
  obtain ⟨d1, d2⟩ := parts_end hvb j6 j7
  refine go ?_
  rw [← j2]
  refine ref01_trim_box (out := xc) (by rfl) (by omega) (fun f co2 f1 f2 f3 => ?_)
  have lt : (xc.take f).length = f := by simp; omega
  have ot := j3.take f
  have ht0 : at0 (xc.take f) 0 % 2 ^ n = 0 := back_start (r := val a % val b) (by omega) (f2.trans d2)
  rw [d2] at f2
  have hag : ∀ w, w < f → at0 xc w = at0 (xc.take f) w := fun w hw => (at0_take hw).symm
  generalize xc.take f = t at lt ot ht0 f2 hag
  refine go ?_
  refine f_loop (fun z vs H => ∃ (i : Nat) (x2 : List Nat), vs = [u64 n, .c (.sl 2 0 (m + 1) (some (m + 1)) 1), .c (.sl 0 0 f co2 1), i64 i] ∧ H = [.live ⟨x2.map W, T_uint32, .rw⟩, .live ⟨(yl ++ yr).map W, T_uint32, .rw⟩, .live ⟨out.map W, T_uint32, .rw⟩] ∧ z = f - i ∧ i ≤ f ∧ x2.length = xc.length ∧ OkW x2 ∧ 2 ^ n * val (x2.take i) = val (t.take i) + 4294967296 ^ i * (at0 t i % 2 ^ n) ∧ ∀ w, i ≤ w → w < f → at0 x2 w = at0 t w) (by rfl) ⟨0, xc, rfl, rfl, rfl, by omega, rfl, j3, by rw [ht0]; simp [val], fun w _ hw => hag w hw⟩ ?_
  rintro z vs H ⟨i, x2, rfl, rfl, rfl, v1, v2, v3, v4, v5⟩
  refine go ?_
  cases hq3 : compare' Cm.lss (i : Int) (f : Int)
  case true =>
    simp [compare'] at hq3
    have gi := ot.get i
    have gj := ot.get (i + 1)
    have ai := v5 i (by omega) hq3
    obtain ⟨w, w1, w2, w3, w4, w5⟩ := back_word n1 gi gj
    obtain ⟨w6, w7⟩ := or_u32' (lo := at0 t i / 2 ^ n) (m := w) (s := 32 - n) (by omega) w2 w4
    refine go ?_
    refine idx_sl (by rfl) (by rfl) (by omega) (by omega) ?_
    refine go ?_
    refine ld_word (k := i) (by rfl) (by omega) (by omega) ?_
    refine go ?_
    rw [shr_back n1, ai]
    refine idx_sl (by rfl) (by rfl) (by omega) (by omega) ?_
    refine go ?_
    refine st_word (k := i) (by rfl) (by rfl) (by omega) (by omega) ?_
    refine go ?_
    rw [addI1 i (by omega)]
    cases hq4 : compare' Cm.lss ((i + 1 : Nat) : Int) (f : Int)
    case true =>
      simp only [compare', dec_true] at hq4
      refine go ?_
      refine idx_sl (by rfl) (by rfl) (by omega) (by omega) ?_
      refine go ?_
      refine ld_word (k := i) (by rfl) (by omega) (by simp; omega) ?_
      refine go ?_
      rw [addI1 i (by omega)]
      refine idx_sl (by rfl) (by rfl) (by omega) (by omega) ?_
      refine go ?_
      refine ld_word (k := i + 1) (by rfl) (by omega) (by simp; omega) ?_
      refine go ?_
      have e1 : at0 (x2.set i (at0 t i / 2 ^ n)) i = at0 t i / 2 ^ n := by simp [at0, show i < x2.length by omega]
      have e2 : at0 (x2.set i (at0 t i / 2 ^ n)) (i + 1) = at0 t (i + 1) := by rw [at0_set (by omega)]; exact v5 _ (by omega) (by omega)
      rw [e1, e2, wrapN _ (by omega : at0 t (i + 1) < 18446744073709551616), show arith .sub .u64 32 (n : Int) = ((32 - n : Nat) : Int) from subN 32 n (by omega) (by omega)]
      refine go ?_
      rw [shl_back n1 gj w1, w6]
      refine idx_sl (by rfl) (by rfl) (by omega) (by omega) ?_
      refine go ?_
      refine st_word (k := i) (by rfl) (by rfl) (by omega) (by simp; omega) ?_
      rw [List.set_set]
      refine go ?_
      refine l_n (by rfl) (by omega) ⟨i + 1, _, ?_, rfl, rfl, by omega, by simp [v2], by rw [List.set_set]; exact v3.set w7, ?_, fun z hz hz2 => ?_⟩
      · rw [addI1 i (by omega)]
        rfl
      · rw [List.set_set, val_take_set (by omega), val_take_succ, Nat.pow_succ]
        exact back_row v4 w5
      · rw [List.set_set, at0_set (by omega)]
        exact v5 z (by omega) hz2
    simp only [compare', dec_false] at hq4
    have hz0 : at0 t (i + 1) = 0 := at0_ge (by omega)
    refine go ?_
    refine l_n (by rfl) (by omega) ⟨i + 1, _, ?_, rfl, rfl, by omega, by simp [v2], v3.set (by omega), ?_, fun z hz hz2 => ?_⟩
    · rw [addI1 i (by omega)]
      rfl
    · rw [val_take_set (by omega), val_take_succ, Nat.pow_succ]
      exact back_row v4 (by rw [hz0, Nat.zero_mod, Nat.mul_zero, Nat.add_zero, Nat.div_add_mod])
    · rw [at0_set (by omega)]
      exact v5 z (by omega) hz2
  simp [compare'] at hq3
  have ei : i = f := by omega
  subst ei
  rw [val_all (l := t) (by omega), at0_ge (l := t) (by omega), Nat.zero_mod, Nat.mul_zero, Nat.add_zero, f2, Nat.mul_comm] at v4
  have hfin : val (x2.take i) = val a % val b := Nat.eq_of_mul_eq_mul_right (Nat.pow_pos (by decide)) v4
  refine go ?_
  refine semH_of_semC_close [2] (.cons (.c (fz_words out (by rfl) rfl (by simp) j4.symm (by rw [← j4]; exact List.take_of_length_le (by simp)))) .nil) (ref01_trim (.imm out) (by omega)) (fun u hu => ?_)
  obtain ⟨c1, l1, rfl, w1, p1, u1, t1⟩ := hu
  refine go ?_
  refine semH_of_semC_close [0] (.cons (.c (fz_words (x2.take i) (by rfl) rfl (by simp) (by simp; omega) map_take)) .nil) (ref01_trim (.imm (x2.take i)) (by simp; omega)) (fun u hu => ?_)
  obtain ⟨c2, l2, rfl, w2, p2, u2, t2⟩ := hu
  refine go ?_
  exact PartsK.fz w1 (norm_of j5 p1 t1) (u1.trans d1) w2 (norm_of (v3.take i) p2 t2) (u2.trans hfin)
end Go.Proofs.YtjncgcnofiaiaaaGreat
